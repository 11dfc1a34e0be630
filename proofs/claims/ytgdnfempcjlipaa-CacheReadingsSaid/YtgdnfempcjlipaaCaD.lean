/- CacheLasts as plain data: what was kept stays while fewer than n others were used, and it lasts. -/
import Derived.Test.YtgdnfempcjlipaaCaC
namespace Go.Proofs.Ytgdnfempcjlipaa
open Go.RowKit Go.Maps

def halfT : Int := 549755813888
theorem nodup_subQ {l m : List Qn} (h : l.Nodup) (hs : ∀ x ∈ l, x ∈ m) : l.length ≤ m.length := by
  induction l generalizing m with
  | nil => simp
  | cons x l ih =>
    rw [List.nodup_cons] at h
    have hx := hs x (by simp)
    have h1 := ih (m := m.erase x) h.2 (fun y hy => by
      have hne : y ≠ x := fun e => h.1 (e ▸ hy)
      exact (List.mem_erase_of_ne hne).2 (hs y (by simp [hy])))
    rw [List.length_erase_of_mem hx] at h1
    have := List.length_pos_of_mem hx
    simp only [List.length_cons]
    omega
theorem clamp_up {old t : Int} (h : old ≤ t) (h2 : t ≤ topT) : clampT old t = t := by unfold clampT; omega
/-- The readings of acts that are not above a bound leave the cache's reading not above it. -/
theorem clamp_bound {old t b : Int} (h1 : old ≤ b) (h2 : t ≤ b) : clampT old t ≤ b := by unfold clampT; omega
theorem doA_now {n : Nat} {c : Cst} {a : ActT} {b : Int} (h1 : c.now ≤ b) (h2 : a.now ≤ b) : (doA n c a).now ≤ b := by
  unfold doA
  split
  · unfold keepC
    split
    · exact clamp_bound h1 h2
    · exact h1
  · split
    · exact clamp_bound h1 h2
    · unfold findC
      split
      · exact clamp_bound h1 h2
      · exact clamp_bound h1 h2
theorem runA_now {n : Nat} {b : Int} : ∀ (l : List ActT) (c : Cst), c.now ≤ b → (∀ a ∈ l, a.now ≤ b) → (runA n c l).now ≤ b
  | [], c, h, _ => h
  | a :: l, c, h, hl => by
    show (runA n (doA n c a) l).now ≤ b
    exact runA_now l _ (doA_now h (hl a (by simp))) (fun x hx => hl x (by simp [hx]))
/-- One entry is kept, and of its question no other one. -/
def Has (e : En) (M : List En) : Prop := e ∈ M ∧ ∀ y ∈ M, y.q = e.q → y = e
theorem Has.get {e : En} {M : List En} (h : Has e M) : getM M e.q = some e := by
  unfold getM
  cases hf : M.find? (fun y => decide (y.q = e.q)) with
  | none =>
    have := List.find?_eq_none.1 hf e h.1
    simp at this
  | some y =>
    have h1 := List.mem_of_find?_eq_some hf
    have h2 := List.find?_some hf
    rw [decide_eq_true_eq] at h2
    rw [h.2 y h1 h2]
theorem Has.exp {e : En} {M : List En} (h : Has e M) {t : Int} (ht : t < e.til) : Has e (expM M t) :=
  ⟨List.mem_filter.2 ⟨h.1, decide_eq_true ht⟩, fun y hy => h.2 y (List.mem_filter.1 hy).1⟩
theorem Has.use {e : En} {M : List En} (h : Has e M) : Has e (useM M e.q) := by
  unfold useM
  rw [h.get]
  refine ⟨by simp, fun y hy hq => ?_⟩
  rcases List.mem_append.1 hy with hy | hy
  · exact absurd hq (mem_dropM.1 hy).2
  · simpa using hy
theorem got_none_of {c : Cst} {x : Qn} {e : En} {t : Int} (hm : mayQ x = true) (hf : foldQ x = e.q) (h : ∀ y ∈ c.M, y.q = e.q → y = e) (h1 : c.now ≤ t) (h2 : t ≤ topT) (h3 : e.til ≤ t) : gotC c x t = none := by
  unfold gotC
  rw [if_pos hm]
  unfold advC
  simp only
  rw [clamp_up h1 h2, hf]
  unfold getM
  rw [List.find?_eq_none]
  intro y hy
  have hy1 := List.mem_filter.1 hy
  simp only [decide_eq_true_eq]
  intro hq
  have e1 := h y hy1.1 hq
  have e2 := of_decide_eq_true hy1.2
  rw [e1] at e2
  omega
theorem got_of {c : Cst} {x : Qn} {e : En} {t : Int} (hm : mayQ x = true) (hf : foldQ x = e.q) (h : Has e c.M) (h1 : c.now ≤ t) (h2 : t ≤ topT) (h3 : t < e.til) : gotC c x t = some e := by
  unfold gotC
  rw [if_pos hm]
  unfold advC
  simp only
  rw [clamp_up h1 h2, hf]
  exact (h.exp h3).get
theorem has_find {c : Cst} {x : Qn} {e : En} {t : Int} (hm : mayQ x = true) (hf : foldQ x = e.q) (h : Has e c.M) (h1 : c.now ≤ t) (h2 : t ≤ topT) (h3 : t < e.til) : Has e (findC c x t).M ∧ (findC c x t).now = t := by
  unfold findC
  rw [if_pos hm]
  unfold advC
  simp only
  rw [clamp_up h1 h2, hf]
  exact ⟨(h.exp h3).use, rfl⟩
theorem adv_now {c : Cst} {t : Int} (h1 : c.now ≤ t) (h2 : t ≤ topT) : (advC c t).now = t := clamp_up h1 h2

/-- Right behind Keep: it is there, for its life, and Find changes nothing. -/
theorem keep_got {n : Nat} {c : Cst} {x : Qn} {v : Ver} {life t : Int} (hn : 1 ≤ n) (hO : OkM n c) (hm : mayQ x = true) (hl : 1 ≤ life ∧ life ≤ 1000) (hx1 : x.ty < 65536) (hx2 : x.cl < 65536) :
    gotC (keepC n c x v life t) x t = some ⟨foldQ x, v, (advC c t).now + life⟩ ∧ (advC (keepC n c x v life t) t).now = (advC c t).now ∧ findC (keepC n c x v life t) x t = keepC n c x v life t := by
  have hok : okK x life = true := by unfold okK; rw [hm]; simp; omega
  have hO2 : OkM n (keepC n c x v life t) := hO.keep hx1 hx2
  have hO3 := hO.adv t
  have hcl : clampT (keepC n c x v life t).now t = (keepC n c x v life t).now := by
    unfold keepC
    rw [if_pos hok]
    have h1 := hO3.now1
    show clampT (clampT c.now t) t = clampT c.now t
    unfold clampT topT at *
    omega
  have hadv := exp_self hO2 hcl
  have hmin : min life topT = life := by unfold topT; omega
  have hM : ∃ X, (keepC n c x v life t).M = X ++ [⟨foldQ x, v, (advC c t).now + life⟩] ∧ ∀ y ∈ X, y.q ≠ foldQ x := by
    unfold keepC
    rw [if_pos hok, hmin]
    simp only
    unfold keepM
    rw [if_neg (by omega)]
    refine ⟨_, rfl, ?_⟩
    simp only
    split
    · exact fun y hy => (mem_dropM.1 hy).2
    · rename_i hno
      have hno' : ∀ y ∈ (advC c t).M, y.q ≠ foldQ x := fun y hy e => hno (hasM_iff.2 ⟨y, hy, e⟩)
      split
      · exact fun y hy => hno' y (List.mem_of_mem_tail hy)
      · exact hno'
  obtain ⟨X, hX, hXn⟩ := hM
  have hget : getM (keepC n c x v life t).M (foldQ x) = some ⟨foldQ x, v, (advC c t).now + life⟩ := by
    refine Has.get (e := ⟨foldQ x, v, (advC c t).now + life⟩) ⟨by rw [hX]; simp, fun y hy hq => ?_⟩
    rw [hX] at hy
    rcases List.mem_append.1 hy with hy | hy
    · exact absurd hq (hXn y hy)
    · simpa using hy
  refine ⟨?_, ?_, ?_⟩
  · unfold gotC
    rw [if_pos hm, hadv, hget]
  · rw [hadv]
    unfold keepC
    rw [if_pos hok]
  · unfold findC
    rw [if_pos hm, hadv]
    unfold useM
    rw [hget]
    have : dropM (keepC n c x v life t).M (foldQ x) = X := by
      unfold dropM
      rw [hX, List.filter_append]
      rw [List.filter_eq_self.2 (fun y hy => by simpa using hXn y hy)]
      simp
    simp only
    rw [this, ← hX]

/-- What holds while others are used. -/
structure LInv (n : Nat) (f : Qn) (v : Ver) (T : Int) (c : Cst) (U : List Qn) (t : Int) : Prop where
  lo : c.now ≤ t
  own : ∀ y ∈ c.M, y.q = f → y = ⟨f, v, T⟩
  cnt : c.now < T → U.length < n → ∃ A B, c.M = A ++ ⟨f, v, T⟩ :: B ∧ ∀ y ∈ B, y.q ∈ U.map foldQ
theorem LInv.has {n : Nat} {f : Qn} {v : Ver} {T : Int} {c : Cst} {U : List Qn} {t : Int} (h : LInv n f v T c U t) (h1 : c.now < T) (h2 : U.length < n) : Has ⟨f, v, T⟩ c.M := by
  obtain ⟨A, B, e, _⟩ := h.cnt h1 h2
  exact ⟨by rw [e]; simp, h.own⟩
theorem LInv.skip {n : Nat} {f : Qn} {v : Ver} {T : Int} {c : Cst} {U : List Qn} {t t' : Int} (h : LInv n f v T c U t) (ht : t ≤ t') : LInv n f v T c U t' := ⟨Int.le_trans h.lo ht, h.own, h.cnt⟩
def hereU (U : List Qn) (q : Qn) (j : Nat) : Bool := (U.take j).any fun u => eqQ u q
theorem hereU_succ {U : List Qn} {q : Qn} {j : Nat} (h : j < U.length) : hereU U q (j + 1) = (hereU U q j || eqQ U[j] q) := by
  unfold hereU
  rw [List.take_succ_eq_append_getElem h, List.any_append]
  simp
def pushU (U : List Qn) (q : Qn) : List Qn := if hereU U q U.length = true then U else U ++ [q]
theorem push_len (U : List Qn) (q : Qn) : U.length ≤ (pushU U q).length ∧ (pushU U q).length ≤ U.length + 1 := by
  unfold pushU
  split <;> simp
theorem push_sub {U : List Qn} {q : Qn} : ∀ y ∈ U.map foldQ, y ∈ (pushU U q).map foldQ := by
  intro y hy
  unfold pushU
  split
  · exact hy
  · rw [List.map_append]
    exact List.mem_append_left _ hy
theorem push_mem {U : List Qn} {q : Qn} : foldQ q ∈ (pushU U q).map foldQ := by
  unfold pushU
  split
  · rename_i h
    unfold hereU at h
    rw [List.take_of_length_le (Nat.le_refl _), List.any_eq_true] at h
    obtain ⟨u, hu, he⟩ := h
    rw [← (eqQ_iff.1 he).2.2]
    exact List.mem_map.2 ⟨u, hu, rfl⟩
  · simp
theorem LInv.keep {n : Nat} {f : Qn} {v : Ver} {T : Int} {c : Cst} {U : List Qn} {t : Int} (h : LInv n f v T c U t) {q : Qn} {v2 : Ver} {life t' : Int} (hO : OkM n c) (hn : 1 ≤ n) (hq : okK q life = true) (hqf : foldQ q ≠ f) (ht : t ≤ t') (ht2 : t' ≤ topT) :
    LInv n f v T (keepC n c q v2 life t') (pushU U q) t' := by
  have hcl : clampT c.now t' = t' := clamp_up (Int.le_trans h.lo ht) ht2
  have hk : keepC n c q v2 life t' = ⟨t', keepM n (expM c.M t') ⟨foldQ q, v2, t' + min life topT⟩⟩ := by
    unfold keepC
    rw [if_pos hq]
    unfold advC
    simp only
    rw [hcl]
  have hO1 := hO.adv t'
  have hnd : ((expM c.M t').map (·.q)).Nodup := by have := hO1.nd; unfold advC at this; simp only at this; rwa [hcl] at this
  rw [hk]
  refine ⟨Int.le_refl _, fun y hy hyq => ?_, fun h1 h2 => ?_⟩
  · rcases keepM_mem hy with hy | rfl
    · exact h.own y (List.mem_filter.1 hy).1 hyq
    · exact absurd hyq hqf
  · simp only at h1 ⊢
    obtain ⟨A, B, e, hB⟩ := h.cnt (Int.lt_of_le_of_lt (Int.le_trans h.lo ht) h1) (Nat.lt_of_le_of_lt (push_len U q).1 h2)
    have e1 : expM c.M t' = expM A t' ++ ⟨f, v, T⟩ :: expM B t' := by
      rw [e]
      unfold expM
      rw [List.filter_append, List.filter_cons, if_pos (decide_eq_true h1)]
    have hB1 : ∀ y ∈ expM B t', y.q ∈ (pushU U q).map foldQ := fun y hy => push_sub _ (hB y (List.mem_filter.1 hy).1)
    unfold keepM
    rw [if_neg (by omega)]
    simp only
    by_cases hh : hasM (expM c.M t') (foldQ q) = true
    · rw [if_pos hh]
      refine ⟨dropM (expM A t') (foldQ q), dropM (expM B t') (foldQ q) ++ [⟨foldQ q, v2, t' + min life topT⟩], ?_, ?_⟩
      · rw [e1]
        unfold dropM
        rw [List.filter_append, List.filter_cons, if_pos (by simpa using fun h => hqf h.symm)]
        simp
      · intro y hy
        rcases List.mem_append.1 hy with hy | hy
        · exact hB1 y (mem_dropM.1 hy).1
        · simp at hy
          subst hy
          exact push_mem
    · rw [if_neg hh]
      have hno : ∀ y ∈ expM c.M t', y.q ≠ foldQ q := fun y hy e => hh (hasM_iff.2 ⟨y, hy, e⟩)
      have hB2 : ∀ y ∈ expM B t' ++ [⟨foldQ q, v2, t' + min life topT⟩], y.q ∈ (pushU U q).map foldQ := by
        intro y hy
        rcases List.mem_append.1 hy with hy | hy
        · exact hB1 y hy
        · simp at hy
          subst hy
          exact push_mem
      by_cases hl : (expM c.M t').length = n
      · rw [if_pos hl]
        cases hA : expM A t' with
        | nil =>
          exfalso
          rw [e1, hA] at hl hnd hno
          simp only [List.nil_append, List.length_cons, List.map_cons, List.nodup_cons] at hl hnd
          have hsub := nodup_subQ (l := foldQ q :: (expM B t').map (·.q)) (m := (pushU U q).map foldQ) (by
            rw [List.nodup_cons]
            refine ⟨fun hm => ?_, hnd.2⟩
            obtain ⟨y, hy, he⟩ := List.mem_map.1 hm
            exact hno y (by simp [hy]) he) (by
            intro y hy
            rcases List.mem_cons.1 hy with rfl | hy
            · exact push_mem
            · obtain ⟨z, hz, rfl⟩ := List.mem_map.1 hy
              exact hB1 z hz)
          simp only [List.length_cons, List.length_map] at hsub
          omega
        | cons a A1 =>
          refine ⟨A1, expM B t' ++ [⟨foldQ q, v2, t' + min life topT⟩], ?_, hB2⟩
          rw [e1, hA]
          simp
      · rw [if_neg hl]
        refine ⟨expM A t', expM B t' ++ [⟨foldQ q, v2, t' + min life topT⟩], ?_, hB2⟩
        rw [e1]
        simp
/-- It begins so. -/
theorem LInv.start {n : Nat} {c : Cst} {x : Qn} {v : Ver} {life : Int} (hn : 1 ≤ n) (hm : mayQ x = true) (hl : 1 ≤ life ∧ life ≤ 1000) (hc : c.now ≤ halfT) :
    LInv n (foldQ x) v (halfT + life) (keepC n c x v life halfT) [] halfT := by
  have hok : okK x life = true := by unfold okK; rw [hm]; simp; omega
  have hmin : min life topT = life := by unfold topT; omega
  have hcl : clampT c.now halfT = halfT := clamp_up hc (by unfold halfT topT; omega)
  have hk : keepC n c x v life halfT = ⟨halfT, keepM n (expM c.M halfT) ⟨foldQ x, v, halfT + life⟩⟩ := by
    unfold keepC
    rw [if_pos hok, hmin]
    unfold advC
    simp only
    rw [hcl]
  have hM : ∃ X, keepM n (expM c.M halfT) ⟨foldQ x, v, halfT + life⟩ = X ++ [⟨foldQ x, v, halfT + life⟩] ∧ ∀ y ∈ X, y.q ≠ foldQ x := by
    unfold keepM
    rw [if_neg (by omega)]
    refine ⟨_, rfl, ?_⟩
    simp only
    split
    · exact fun y hy => (mem_dropM.1 hy).2
    · rename_i hno
      have hno' : ∀ y ∈ expM c.M halfT, y.q ≠ foldQ x := fun y hy e => hno (hasM_iff.2 ⟨y, hy, e⟩)
      split
      · exact fun y hy => hno' y (List.mem_of_mem_tail hy)
      · exact hno'
  obtain ⟨X, hX, hXn⟩ := hM
  rw [hk]
  refine ⟨Int.le_refl _, fun y hy hyq => ?_, fun _ _ => ⟨X, [], hX, by simp⟩⟩
  simp only at hy
  rw [hX] at hy
  rcases List.mem_append.1 hy with hy | hy
  · exact absurd hyq (hXn y hy)
  · simpa using hy

end Go.Proofs.Ytgdnfempcjlipaa
