/- A book in which one upstream alone rests. -/
import Derived.Test.YtjcciojbljlloaaRepPl2
namespace Go.Proofs.Ytjcciojbljlloaa

theorem look_score' (L : Nat) (p : Up) : (p.look L).score = p.score := by unfold Up.look; split <;> rfl

theorem idx_none (f : Up → Bool) : ∀ (l : List Up) (i : Nat), (∀ p ∈ l, f p = false) → idxN f i l = []
  | [], _, _ => rfl
  | p :: l, i, h => by
    simp only [idxN]
    rw [if_neg (by rw [h p (by simp)]; decide)]
    exact idx_none f l (i + 1) fun q hq => h q (by simp [hq])
theorem idx_append (f : Up → Bool) : ∀ (l m : List Up) (i : Nat), idxN f i (l ++ m) = idxN f i l ++ idxN f (i + l.length) m
  | [], m, i => by simp [idxN]
  | p :: l, m, i => by
    simp only [List.cons_append, idxN, idx_append f l m (i + 1), List.length_cons]
    rw [show i + 1 + l.length = i + (l.length + 1) by omega]
    split <;> simp
/-- One alone may hold. -/
theorem idx_one (f : Up → Bool) (us : List Up) (u : Nat) (h : u < us.length) (hn : ∀ j (hj : j < us.length), j ≠ u → f us[j] = false) : idxN f 0 us = if f us[u] then [u] else [] := by
  have e : us = us.take u ++ us[u] :: us.drop (u + 1) := by rw [← List.drop_eq_getElem_cons h, List.take_append_drop]
  have h1 : ∀ p ∈ us.take u, f p = false := by
    intro p hp
    obtain ⟨i, hi, rfl⟩ := List.mem_iff_getElem.1 hp
    rw [List.getElem_take]
    have : i < u := by simp at hi; omega
    exact hn i (by omega) (by omega)
  have h2 : ∀ p ∈ us.drop (u + 1), f p = false := by
    intro p hp
    obtain ⟨i, hi, rfl⟩ := List.mem_iff_getElem.1 hp
    rw [List.getElem_drop]
    have : u + 1 + i < us.length := by simp at hi; omega
    exact hn (u + 1 + i) this (by omega)
  have hl : (us.take u).length = u := by simp; omega
  have key : idxN f 0 (us.take u ++ us[u] :: us.drop (u + 1)) = if f us[u] then [u] else [] := by
    rw [idx_append, idx_none f _ _ h1, hl, List.nil_append, Nat.zero_add]
    simp only [idxN]
    rw [idx_none f _ _ h2]
  rw [← e] at key
  exact key
theorem due_none : ∀ (l : List Up) (a : Nat × Bool), (∀ p ∈ l, p.rests = false) → l.foldl dueS a = a
  | [], _, _ => rfl
  | p :: l, a, h => by
    have : dueS a p = a := by unfold dueS; rw [h p (by simp)]; rfl
    rw [List.foldl_cons, this]
    exact due_none l a fun q hq => h q (by simp [hq])
theorem due_one (us : List Up) (u : Nat) (h : u < us.length) (hn : ∀ j (hj : j < us.length), j ≠ u → us[j].rests = false) (hr : us[u].rests = true) : dueN us = (us[u].til, true) := by
  have e : us = us.take u ++ us[u] :: us.drop (u + 1) := by rw [← List.drop_eq_getElem_cons h, List.take_append_drop]
  have h1 : ∀ p ∈ us.take u, p.rests = false := by
    intro p hp
    obtain ⟨i, hi, rfl⟩ := List.mem_iff_getElem.1 hp
    rw [List.getElem_take]
    have : i < u := by simp at hi; omega
    exact hn i (by omega) (by omega)
  have h2 : ∀ p ∈ us.drop (u + 1), p.rests = false := by
    intro p hp
    obtain ⟨i, hi, rfl⟩ := List.mem_iff_getElem.1 hp
    rw [List.getElem_drop]
    have : u + 1 + i < us.length := by simp at hi; omega
    exact hn (u + 1 + i) this (by omega)
  have key : dueN (us.take u ++ us[u] :: us.drop (u + 1)) = (us[u].til, true) := by
    unfold dueN
    rw [List.foldl_append, due_none _ _ h1, List.foldl_cons]
    have : dueS (0, false) us[u] = (us[u].til, true) := by unfold dueS; rw [hr]; rfl
    rw [this, due_none _ _ h2]
  rw [← e] at key
  exact key
theorem may_all (us : List Up) (h : ∀ p ∈ us, p.rests = false) : (mayN us).length = us.length := by
  have key : ∀ (l : List Up) (i : Nat), (∀ p ∈ l, p.rests = false) → (idxN free i l).length = l.length := by
    intro l
    induction l with
    | nil => intro i _; rfl
    | cons p l ih =>
      intro i h
      simp only [idxN]
      rw [if_pos (by simp [free, h p (by simp)]), List.length_cons, List.length_cons, ih (i + 1) fun q hq => h q (by simp [hq])]
  exact key us 0 h

/-- Behind Back at a late reading nobody rests. -/
theorem back_late {L : Nat} {us : List Up} (hok : AllOk us) : ∀ p ∈ backB L 4398046511104 us, p.rests = false := by
  intro p hp
  obtain ⟨q, hq, rfl⟩ := List.mem_map.1 hp
  unfold Up.backS
  split
  · unfold Up.ret; rw [look_rests]
  · rename_i ho
    have := (hok q hq).til
    unfold Up.over at ho
    cases hr : q.rests
    · rfl
    · rw [hr] at ho
      simp at ho
      omega

/-- All that the statement on rest asks, of a book in which nobody rests. -/
structure RestFacts (L R : Nat) (us1 : List Up) (U now again n T : Nat) (us2 us3 us5 : List Up) (B : Bool) : Prop where
  may : (mayN us1).length = n
  r1 : (getB us1 (U : Int)).rests = false
  e2 : disI L R us1 (U : Int) (now : Int) = us2
  s2 : (getB us2 (U : Int)).score = (getB us1 (U : Int)).score - 10
  r2 : (getB us2 (U : Int)).rests = B
  b2 : B = (decide (n / 2 + 1 < n) && decide ((getB us2 (U : Int)).score < L))
  due2 : B = true → dueN us2 = (T, true)
  t2 : B = true → (getB us2 (U : Int)).trial = false
  e3 : disI L R us2 (U : Int) (again : Int) = us3
  r3 : B = true → (getB us3 (U : Int)).rests = true
  due3 : B = true → dueN us3 = (T, true)
  i4 : B = true → backI ((T : Int) - 1) us3 = []
  e4 : B = true → backB L ((T : Int) - 1) us3 = us3
  i5 : B = true → backI (T : Int) us3 = [U]
  e5 : backB L (T : Int) us3 = us5
  r5 : B = true → (getB us5 (U : Int)).rests = false
  s5 : B = true → (getB us5 (U : Int)).score = L
  t5 : B = true → (getB us5 (U : Int)).trial = decide (L < 100)

theorem rest_facts (L R : Nat) (us1 : List Up) (U now again n T : Nat) (hT : T = now + R) (hn : us1.length = n) (hU : U < n) (hfree : ∀ p ∈ us1, p.rests = false) (hL : L ≤ 100) (hnow : now ≤ 549755813888) (hag : again ≤ 549755813888) :
    ∃ us2 us3 us5 B, RestFacts L R us1 U now again n T us2 us3 us5 B := by
  subst hT
  have hU1 : U < us1.length := by omega
  have hasU : ∀ us : List Up, us.length = n → hasB us (U : Int) = true := fun us h => hasB_iff.2 ⟨by omega, by omega⟩
  have nowOk : ∀ m : Nat, m ≤ 549755813888 → nowB (m : Int) = true := fun m h => decide_eq_true ⟨by omega, by omega⟩
  obtain ⟨p, hp⟩ : ∃ p, p = us1[U] := ⟨_, rfl⟩
  have hpr : p.rests = false := by rw [hp]; exact hfree _ (List.getElem_mem hU1)
  have hmay : (mayN us1).length = n := by rw [may_all us1 hfree, hn]
  have hoth : othN U 0 us1 = n - 1 := by
    have := oth_may U us1 0 U hU1 (by omega)
    rw [← hp, show free p = true by simp [free, hpr]] at this
    unfold mayN at hmay
    rw [hmay] at this
    simp at this
    omega
  have e2 : ∀ us : List Up, us.length = n → ∀ m : Nat, m ≤ 549755813888 → disI L R us (U : Int) (m : Int) = disB L R us U m := by
    intro us h m hm
    unfold disI
    rw [hasU us h, nowOk m hm]
    simp
  obtain ⟨q, hq⟩ : ∃ q, q = if leaves L us1 U then p.dis.leave (now + R) else p.dis := ⟨_, rfl⟩
  have hus2 : disB L R us1 U now = us1.set U q := by unfold disB; rw [modify_set us1 U _ hU1, ← hp, ← hq]
  have hlv : leaves L us1 U = (decide (n / 2 + 1 < n) && decide (p.score - 10 < L)) := by
    unfold leaves
    rw [List.getElem?_eq_getElem hU1, ← hp]
    simp only []
    rw [hpr, hoth, hn]
    simp only [Bool.not_false, Bool.true_and]
    rw [Bool.and_comm]
    congr 1
    rw [decide_eq_decide]
    omega
  have hl2 : (us1.set U q).length = n := by simpa using hn
  have hU2 : U < (us1.set U q).length := by omega
  have g1 : getB us1 (U : Int) = p := by rw [getB_in hU1, hp]
  have g2 : getB (us1.set U q) (U : Int) = q := by rw [getB_in hU2, List.getElem_set_self]
  have hqs : q.score = p.score - 10 := by rw [hq]; split <;> rfl
  have hqr : q.rests = leaves L us1 U := by rw [hq]; split <;> rename_i h <;> simp [h, Up.leave, Up.dis, hpr]
  have n2 : ∀ (x : Up) j (hj : j < (us1.set U x).length), j ≠ U → (us1.set U x)[j].rests = false := by
    intro x j hj hne
    rw [List.getElem_set_ne (by omega)]
    exact hfree _ (List.getElem_mem _)
  obtain ⟨q3, hq3⟩ : ∃ q3, q3 = if leaves L (us1.set U q) U then q.dis.leave (again + R) else q.dis := ⟨_, rfl⟩
  have hus3 : disB L R (us1.set U q) U again = us1.set U q3 := by
    unfold disB
    rw [modify_set _ U _ hU2, List.getElem_set_self, List.set_set, ← hq3]
  have hl3 : (us1.set U q3).length = n := by simpa using hn
  have hU3 : U < (us1.set U q3).length := by omega
  have g3 : getB (us1.set U q3) (U : Int) = q3 := by rw [getB_in hU3, List.getElem_set_self]
  have B3 : leaves L us1 U = true → q3 = q.dis ∧ q.til = now + R ∧ q.trial = false ∧ q.rests = true := by
    intro hb
    have hr : q.rests = true := by rw [hqr, hb]
    have : leaves L (us1.set U q) U = false := by
      unfold leaves
      rw [List.getElem?_eq_getElem hU2, List.getElem_set_self]
      simp [hr]
    refine ⟨by rw [hq3, this]; rfl, ?_, ?_, hr⟩
    · rw [hq, if_pos hb]; rfl
    · rw [hq, if_pos hb]; rfl
  refine ⟨us1.set U q, us1.set U q3, backB L ((now + R : Nat) : Int) (us1.set U q3), leaves L us1 U, ⟨hmay, by rw [g1]; exact hpr, by rw [e2 us1 hn now hnow, hus2], by rw [g1, g2, hqs], by rw [g2, hqr], by rw [g2, hqs, hlv], ?_, ?_, by rw [e2 _ hl2 again hag, hus3], ?_, ?_, ?_, ?_, ?_, rfl, ?_, ?_, ?_⟩⟩
  · intro hb
    obtain ⟨_, ht, _, hr⟩ := B3 hb
    rw [due_one _ U hU2 (n2 q) (by rw [List.getElem_set_self]; exact hr), List.getElem_set_self, ht]
  · intro hb; rw [g2]; exact (B3 hb).2.2.1
  · intro hb; obtain ⟨h3, _, _, hr⟩ := B3 hb; rw [g3, h3]; exact hr
  · intro hb
    obtain ⟨h3, ht, _, hr⟩ := B3 hb
    rw [due_one _ U hU3 (n2 q3) (by rw [List.getElem_set_self, h3]; exact hr), List.getElem_set_self, h3]
    show (q.til, true) = _
    rw [ht]
  · intro hb
    obtain ⟨h3, ht, _, hr⟩ := B3 hb
    unfold backI
    rw [idx_one _ _ U hU3 (fun j hj hne => by unfold Up.over; rw [n2 q3 j hj hne]; rfl), List.getElem_set_self, h3, if_neg]
    unfold Up.over
    show ¬ (q.rests && decide ((q.til : Int) ≤ _)) = true
    rw [ht, hr]
    simp
    omega
  · intro hb
    obtain ⟨h3, ht, _, hr⟩ := B3 hb
    apply List.ext_getElem (by rw [backB_len])
    intro j h1 h2
    rw [backB_get h2 h1]
    unfold Up.backS
    rw [if_neg]
    by_cases hj : j = U
    · subst hj
      rw [List.getElem_set_self, h3]
      unfold Up.over
      show ¬ (q.rests && decide ((q.til : Int) ≤ _)) = true
      rw [ht, hr]
      simp
      omega
    · unfold Up.over
      rw [n2 q3 j h2 hj]
      simp
  · intro hb
    obtain ⟨h3, ht, _, hr⟩ := B3 hb
    unfold backI
    rw [idx_one _ _ U hU3 (fun j hj hne => by unfold Up.over; rw [n2 q3 j hj hne]; rfl), List.getElem_set_self, h3, if_pos]
    unfold Up.over
    show (q.rests && decide ((q.til : Int) ≤ _)) = true
    rw [ht, hr]
    simp
  all_goals
    intro hb
    obtain ⟨h3, ht, _, hr⟩ := B3 hb
    have hU5 : U < (backB L ((now + R : Nat) : Int) (us1.set U q3)).length := by rw [backB_len]; exact hU3
    have g5 : getB (backB L ((now + R : Nat) : Int) (us1.set U q3)) (U : Int) = q3.ret L := by
      rw [getB_in hU5, backB_get hU3 hU5, List.getElem_set_self]
      unfold Up.backS
      rw [if_pos]
      rw [h3]
      unfold Up.over
      show (q.rests && decide ((q.til : Int) ≤ _)) = true
      rw [ht, hr]
      simp
    rw [g5]
  · unfold Up.ret; rw [look_rests]
  · unfold Up.ret; rw [look_score']
  · unfold Up.ret Up.look
    by_cases h100 : L < 100
    · rw [if_neg (by show ¬ bnd L ≤ L; unfold bnd; omega), decide_eq_true h100]
    · rw [if_pos (by show bnd L ≤ L; unfold bnd; omega), decide_eq_false h100]

end Go.Proofs.Ytjcciojbljlloaa
