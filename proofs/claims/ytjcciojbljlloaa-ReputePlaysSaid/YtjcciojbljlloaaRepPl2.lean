/- What acts do to each upstream; what holds behind all acts. -/
import Derived.Test.YtjcciojbljlloaaRepH
namespace Go.Proofs.Ytjcciojbljlloaa

/-- What an act may make of an upstream. -/
inductive Tr (L : Nat) (x : Up) : Up → Prop
  | same : Tr L x x
  | agree : Tr L x (x.agreeS L)
  | dis : Tr L x x.dis
  | leave (t : Nat) (h : x.rests = false) : Tr L x (x.dis.leave t)
  | silent : Tr L x x.silentS
  | ret (h : x.rests = true) : Tr L x (x.ret L)

theorem modify_tr {L : Nat} {us : List Up} {f : Up → Up} {u i : Nat} (h : i < us.length) (h' : i < (us.modify u f).length) (hf : u = i → Tr L us[i] (f us[i])) : Tr L us[i] (us.modify u f)[i] := by
  rw [List.getElem_modify]
  split
  · rename_i e; exact hf e
  · exact .same

theorem backB_get {L : Nat} {n : Int} {us : List Up} {i : Nat} (h : i < us.length) (h' : i < (backB L n us).length) : (backB L n us)[i] = us[i].backS L n := by simp only [backB, List.getElem_map]

theorem doB_tr (L R : Nat) (us : List Up) (k : Nat) (u n : Int) (i : Nat) (h : i < us.length) (h' : i < (doB L R us k u n).length) : Tr L us[i] (doB L R us k u n)[i] := by
  have key : ∀ vs, (hv : vs = doB L R us k u n) → (hl : i < vs.length) → Tr L us[i] vs[i] := by
    intro vs hv hl
    unfold doB at hv
    split at hv
    · split at hv
      · subst hv; exact modify_tr h hl fun _ => .agree
      · subst hv; exact .same
    split at hv
    · split at hv
      · subst hv
        refine modify_tr h hl fun e => ?_
        split
        · rename_i hl
          have e1 : us[u.toNat]? = some us[i] := by rw [e, List.getElem?_eq_getElem h]
          unfold leaves at hl
          rw [e1] at hl
          simp only [Bool.and_eq_true, Bool.not_eq_true'] at hl
          exact .leave _ hl.1.1
        · exact .dis
      · subst hv; exact .same
    split at hv
    · split at hv
      · subst hv; exact modify_tr h hl fun _ => .silent
      · subst hv; exact .same
    split at hv
    · subst hv
      rw [backB_get h hl]
      unfold Up.backS
      split
      · rename_i ho
        unfold Up.over at ho
        simp at ho
        exact .ret ho.1
      · exact .same
    · subst hv; exact .same
  exact key _ rfl h'

/-- Who is on trial may be asked, with a score below the bound. -/
def TrialOk (L : Nat) (p : Up) : Prop := p.trial = true → p.rests = false ∧ p.score < bnd L

theorem look_trial {L : Nat} {p : Up} (h : p.trial = true → p.rests = false) : TrialOk L (p.look L) := by
  unfold Up.look
  split
  · intro ht; simp at ht
  · intro ht; exact ⟨h ht, by omega⟩

theorem tr_trial {L : Nat} {x y : Up} (h : Tr L x y) (hx : TrialOk L x) : TrialOk L y := by
  cases h with
  | same => exact hx
  | agree => exact look_trial fun ht => (hx ht).1
  | dis => intro ht; have := hx ht; exact ⟨this.1, by show x.score - 10 < _; omega⟩
  | leave t _ => intro ht; simp [Up.leave] at ht
  | silent => intro ht; have := hx ht; exact ⟨this.1, by show x.score - 2 < _; omega⟩
  | ret _ => exact look_trial fun _ => rfl
theorem tr_new {L : Nat} {x y : Up} (h : Tr L x y) (hy : y.trial = true) (hx : x.trial = false) : x.rests = true := by
  cases h with
  | same => rw [hx] at hy; cases hy
  | agree =>
    unfold Up.agreeS Up.look at hy
    split at hy
    · simp at hy
    · rw [show x.trial = true from hy] at hx; cases hx
  | dis => rw [show x.trial = true from hy] at hx; cases hx
  | leave t _ => simp [Up.leave] at hy
  | silent => rw [show x.trial = true from hy] at hx; cases hx
  | ret h => exact h
theorem tr_over {L : Nat} {x y : Up} (h : Tr L x y) (hx : x.trial = true) (hy : y.trial = false) (hr : y.rests = false) (hok : TrialOk L x) : bnd L ≤ y.score := by
  cases h with
  | same => rw [hx] at hy; cases hy
  | agree =>
    unfold Up.agreeS Up.look at hy ⊢
    split at hy
    · rename_i hb; rw [if_pos hb]; exact hb
    · rw [show x.trial = false from hy] at hx; cases hx
  | dis => rw [show x.trial = false from hy] at hx; cases hx
  | leave t _ => simp [Up.leave] at hr
  | silent => rw [show x.trial = false from hy] at hx; cases hx
  | ret h => have := (hok hx).1; rw [h] at this; cases this

def AllTrial (L : Nat) (us : List Up) : Prop := ∀ i (h : i < us.length), TrialOk L us[i]
theorem allTrial_do {L R : Nat} {us : List Up} (h : AllTrial L us) (k : Nat) (u n : Int) : AllTrial L (doB L R us k u n) := by
  intro i hi
  have hi' : i < us.length := by rw [doB_len] at hi; exact hi
  exact tr_trial (doB_tr L R us k u n i hi' hi) (h i hi')
theorem allTrial_new (L n : Nat) : AllTrial L (newB n) := by
  intro i hi ht
  simp [newB, up0] at ht
theorem allTrial_fold {L R : Nat} (acts : List ActT) : ∀ {us : List Up}, AllTrial L us → AllTrial L (foldB L R us acts) := by
  induction acts with
  | nil => intro us h; exact h
  | cons a l ih => intro us h; exact ih (allTrial_do h a.k a.u a.n)

/-- Enough may be asked. -/
def Enough (us : List Up) : Prop := us.length / 2 + 1 ≤ (mayN us).length

theorem may_same {us vs : List Up} (h : us.map (·.rests) = vs.map (·.rests)) : mayN us = mayN vs := by
  have key : ∀ (us vs : List Up) (i : Nat), us.map (·.rests) = vs.map (·.rests) → idxN free i us = idxN free i vs := by
    intro us
    induction us with
    | nil => intro vs i h; cases vs with | nil => rfl | cons => simp at h
    | cons p l ih =>
      intro vs i h
      cases vs with
      | nil => simp at h
      | cons q m =>
        simp at h
        have hf : free p = free q := by unfold free; rw [h.1]
        simp only [idxN, hf]
        rw [ih m (i + 1) (by simpa using h.2)]
  exact key us vs 0 h

theorem modify_rests {us : List Up} {f : Up → Up} (u : Nat) (hf : ∀ p, (f p).rests = p.rests) : (us.modify u f).map (·.rests) = us.map (·.rests) := by
  apply List.ext_getElem (by simp)
  intro i h1 h2
  simp only [List.getElem_map, List.getElem_modify]
  split
  · exact hf _
  · rfl
theorem look_rests (L : Nat) (p : Up) : (p.look L).rests = p.rests := by unfold Up.look; split <;> rfl
theorem agreeS_rests (L : Nat) (p : Up) : (p.agreeS L).rests = p.rests := by unfold Up.agreeS; rw [look_rests]

theorem idx_mono (f g : Up → Bool) : ∀ (us vs : List Up) (i : Nat), us.length = vs.length → (∀ j (h : j < us.length) (h' : j < vs.length), f us[j] = true → g vs[j] = true) → (idxN f i us).length ≤ (idxN g i vs).length
  | [], [], _, _, _ => Nat.le_refl _
  | [], _ :: _, _, h, _ => by simp at h
  | _ :: _, [], _, h, _ => by simp at h
  | p :: l, q :: m, i, h, hh => by
    have ih := idx_mono f g l m (i + 1) (by simpa using h) (fun j h1 h2 => hh (j + 1) (by simpa using h1) (by simpa using h2))
    have h0 := hh 0 (by simp) (by simp)
    simp only [List.getElem_cons_zero] at h0
    simp only [idxN]
    by_cases hp : f p = true
    · rw [if_pos hp, if_pos (h0 hp)]; simpa using ih
    · rw [if_neg hp]; split
      · simp; omega
      · exact ih

theorem enough_do {L R : Nat} {us : List Up} (h : Enough us) (k : Nat) (u n : Int) : Enough (doB L R us k u n) := by
  have hl := doB_len L R us k u n
  unfold Enough at h ⊢
  rw [hl]
  have same : (doB L R us k u n).map (·.rests) = us.map (·.rests) → us.length / 2 + 1 ≤ (mayN (doB L R us k u n)).length := fun e => by rw [may_same e]; exact h
  unfold doB at same ⊢
  split
  · rename_i h0
    rw [if_pos h0] at same
    split
    · rename_i h1
      rw [if_pos h1] at same
      exact same (modify_rests _ (agreeS_rests L))
    · exact h
  split
  · split
    · by_cases hlv : leaves L us u.toNat = true
      · -- the one that leaves: as many others are left
        rename_i hhas
        simp only [Bool.and_eq_true] at hhas
        obtain ⟨m, hm, hmn⟩ := nat_of_has hhas.1
        subst hm
        rw [Int.toNat_natCast] at hlv ⊢
        have e : disB L R us m n.toNat = us.set m (us[m].dis.leave (n.toNat + R)) := by
          unfold disB
          rw [modify_set us m _ hmn, hlv, if_pos rfl]
        rw [e]
        have o1 := oth_may m (us.set m (us[m].dis.leave (n.toNat + R))) 0 m (by simpa using hmn) (by omega)
        have hnf : free ((us.set m (us[m].dis.leave (n.toNat + R)))[m]'(by simpa using hmn)) = false := by rw [List.getElem_set_self]; rfl
        rw [hnf, othN_set us m _ hmn] at o1
        unfold leaves at hlv
        rw [List.getElem?_eq_getElem hmn] at hlv
        simp only [Bool.and_eq_true, decide_eq_true_eq] at hlv
        have := hlv.2
        unfold mayN
        simp only [Bool.false_eq_true, if_false, Nat.add_zero] at o1
        omega
      · have hlv' : leaves L us u.toNat = false := by simpa using hlv
        have e : (disB L R us u.toNat n.toNat).map (·.rests) = us.map (·.rests) := by
          unfold disB
          rw [hlv']
          exact modify_rests _ fun _ => rfl
        rw [may_same e]; exact h
    · exact h
  split
  · split
    · have e : (silentB us u.toNat).map (·.rests) = us.map (·.rests) := modify_rests _ fun _ => rfl
      rw [may_same e]; exact h
    · exact h
  split
  · refine Nat.le_trans h ?_
    unfold mayN
    refine idx_mono free free us (backB L n us) 0 (by rw [backB_len]) ?_
    intro j h1 h2 hf
    rw [backB_get h1 h2]
    unfold Up.backS
    have : us[j].rests = false := by simpa [free] using hf
    have ho : us[j].over n = false := by unfold Up.over; rw [this]; rfl
    rw [ho]
    exact hf
  · exact h
theorem enough_new (n : Nat) (h : 1 ≤ n) : Enough (newB n) := by
  have key : ∀ n i, (idxN free i (List.replicate n up0)).length = n := by
    intro n
    induction n with
    | zero => intro i; rfl
    | succ n ih => intro i; rw [List.replicate_succ]; simp only [idxN]; rw [if_pos (by rfl), List.length_cons, ih]
  unfold Enough mayN newB
  rw [key]
  simp
  omega
theorem enough_fold {L R : Nat} (acts : List ActT) : ∀ {us : List Up}, Enough us → Enough (foldB L R us acts) := by
  induction acts with
  | nil => intro us h; exact h
  | cons a l ih => intro us h; exact ih (enough_do h a.k a.u a.n)
theorem allOk_fold {L R : Nat} (hL : L ≤ 100) (hR : R ≤ 100000) (acts : List ActT) : ∀ {us : List Up}, AllOk us → AllOk (foldB L R us acts) := by
  induction acts with
  | nil => intro us h; exact h
  | cons a l ih => intro us h; exact ih (doB_ok h hL hR a.k a.u a.n)

theorem newB_len (n : Nat) : (newB n).length = n := by simp [newB]
theorem tell_in {us : List Up} {i : Nat} (h : i < us.length) : tellB us (i : Int) = { us[i] with til := 0 } := by unfold tellB; rw [getB_in h]

end Go.Proofs.Ytjcciojbljlloaa
