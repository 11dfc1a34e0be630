/- CacheOldest as plain data: what is wanted, element by element, is what Keep leaves. -/
import Derived.Test.YtgdnfempcjlipaaCaB
namespace Go.Proofs.Ytgdnfempcjlipaa
open Go.RowKit Go.Maps

theorem adv_top {n : Nat} {c : Cst} (h : OkM n c) : (advC c topT).now = topT := by
  have h1 := h.now1
  show clampT c.now topT = topT
  unfold clampT topT at *
  omega
theorem exp_self {n : Nat} {c : Cst} (h : OkM n c) {t : Int} (ht : clampT c.now t = c.now) : advC c t = c := by
  unfold advC
  rw [ht]
  have : expM c.M c.now = c.M := by
    unfold expM
    exact List.filter_eq_self.2 fun e he => by simpa using (h.til e he).1
  rw [this]
theorem adv_top2 {n : Nat} {c : Cst} (h : OkM n c) : advC (advC c topT) topT = advC c topT := by
  refine exp_self (h.adv topT) ?_
  rw [adv_top h]
  unfold clampT
  omega
/-- Is a kept question x, letters alike? -/
theorem eq_kept {n : Nat} {c : Cst} (h : OkM n c) {x : Qn} (hx : mayQ x = true) : ∀ q ∈ c.M.map (·.q), eqQ q x = decide (q = foldQ x) := by
  intro q hq
  obtain ⟨e, he, rfl⟩ := List.mem_map.1 hq
  obtain ⟨h1, h2, _⟩ := h.may e he
  rw [Bool.eq_iff_iff, eqQ_iff, decide_eq_true_eq, h2]
  exact ⟨fun hh => hh.2.2, fun hh => ⟨h1, hx, hh⟩⟩
def hereJ (f : Qn) (was : List Qn) (j : Nat) : Bool := (was.take j).any fun q => decide (q = f)
theorem hereJ_succ {f : Qn} {was : List Qn} {j : Nat} (h : j < was.length) : hereJ f was (j + 1) = (hereJ f was j || decide (was[j] = f)) := by
  unfold hereJ
  rw [List.take_succ_eq_append_getElem h, List.any_append]
  simp
/-- Does the oldest go? -/
def goB (f : Qn) (was : List Qn) (n : Nat) : Bool := !hereJ f was was.length && decide (was.length = n)
def wantJ (f : Qn) (was : List Qn) (n j : Nat) : List Qn := if goB f was n = true then (was.take j).drop 1 else (was.take j).filter fun q => decide (q ≠ f)
def skipJ (f : Qn) (was : List Qn) (n j : Nat) (h : j < was.length) : Bool := decide (was[j] = f) || (decide (j = 0) && goB f was n)
theorem wantJ_succ {f : Qn} {was : List Qn} {n j : Nat} (h : j < was.length) : wantJ f was n (j + 1) = if skipJ f was n j h = true then wantJ f was n j else wantJ f was n j ++ [was[j]] := by
  unfold wantJ skipJ
  rw [List.take_succ_eq_append_getElem h]
  by_cases hg : goB f was n = true
  · rw [if_pos hg, if_pos hg, hg, Bool.and_true]
    have hno : decide (was[j] = f) = false := by
      unfold goB at hg
      rw [Bool.and_eq_true, Bool.not_eq_true', decide_eq_true_eq] at hg
      have h1 := hg.1
      unfold hereJ at h1
      rw [List.take_of_length_le (Nat.le_refl _), List.any_eq_false] at h1
      simpa using h1 was[j] (List.getElem_mem h)
    rw [hno, Bool.false_or]
    cases j with
    | zero => simp
    | succ j =>
      simp only [Nat.add_eq_zero_iff, Nat.succ_ne_self, and_false, decide_false]
      rw [if_neg (by simp), List.drop_append_of_le_length (by simp; omega)]
  · have hg' : goB f was n = false := by simpa using hg
    rw [if_neg hg, if_neg hg, hg', Bool.and_false, Bool.or_false, List.filter_append]
    by_cases e : was[j] = f
    · simp [e]
    · simp [e]
theorem wantJ_zero (f : Qn) (was : List Qn) (n : Nat) : wantJ f was n 0 = [] := by unfold wantJ; simp
theorem wantJ_len {f : Qn} {was : List Qn} {n j : Nat} : (wantJ f was n j).length ≤ was.length := by
  unfold wantJ
  split
  · simp; omega
  · exact Nat.le_trans (List.length_filter_le _ _) (by simp; omega)
/-- What is wanted is what Keep leaves. -/
theorem want_keep {n : Nat} {M : List En} {f : Qn} {v : Ver} {til : Int} (hn : 1 ≤ n) (hl : M.length ≤ n) : (keepM n M ⟨f, v, til⟩).map (·.q) = wantJ f (M.map (·.q)) n (M.map (·.q)).length ++ [f] := by
  have hh : hasM M f = hereJ f (M.map (·.q)) (M.map (·.q)).length := by
    unfold hasM hereJ
    rw [List.take_of_length_le (Nat.le_refl _), List.any_map]
    rfl
  unfold keepM wantJ goB
  rw [if_neg (by omega), List.take_of_length_le (Nat.le_refl _), ← hh]
  simp only [List.length_map]
  cases hM : hasM M f with
  | true =>
    simp only [if_true, Bool.not_true, Bool.false_and]
    rw [List.map_append]
    unfold dropM
    rw [List.filter_map]
    simp
    rfl
  | false =>
    simp only [Bool.not_false, Bool.true_and]
    by_cases e : M.length = n
    · rw [if_pos e]
      simp [e, List.map_tail]
    · rw [if_neg e]
      simp [e]
      symm
      apply List.filter_eq_self.2
      intro q hq
      obtain ⟨a, ha, rfl⟩ := List.mem_map.1 hq
      unfold hasM at hM
      rw [List.any_eq_false] at hM
      simpa using hM a ha

theorem c6_chg {w w' : World} {p0 p1 p2 p3 p4 p5 : Addr} {v0 v1 v2 v3 v4 v5 : Value} (h : w.cell? p0 = some v0 ∧ w.cell? p1 = some v1 ∧ w.cell? p2 = some v2 ∧ w.cell? p3 = some v3 ∧ w.cell? p4 = some v4 ∧ w.cell? p5 = some v5) (hc : Chg [] w w') :
    w'.cell? p0 = some v0 ∧ w'.cell? p1 = some v1 ∧ w'.cell? p2 = some v2 ∧ w'.cell? p3 = some v3 ∧ w'.cell? p4 = some v4 ∧ w'.cell? p5 = some v5 :=
  ⟨hc.cell h.1 (by simp), hc.cell h.2.1 (by simp), hc.cell h.2.2.1 (by simp), hc.cell h.2.2.2.1 (by simp), hc.cell h.2.2.2.2.1 (by simp), hc.cell h.2.2.2.2.2 (by simp)⟩
def QAt (w : World) (b : Nat) (q : Qn) : Prop := w.heap[b]? = some (.cells #[.string q.nm, .int .u16 (q.ty : Nat), .int .u16 (q.cl : Nat)] 24 (0, 0))
theorem QAt.cchg {w w' : World} {b : Nat} {q : Qn} (h : QAt w b q) (hc : CChg w w') : QAt w' b q := hc.keep h (by decide)
theorem QAt.same {w w' : World} {b : Nat} {q : Qn} (h : QAt w b q) (hc : Chg [] w w') : QAt w' b q := hc.keep h (by simp)
theorem QAt.c3 {w : World} {b : Nat} {q : Qn} (h : QAt w b q) : w.cell? ⟨b, 0, none⟩ = some (.string q.nm) ∧ w.cell? ⟨b, 1, none⟩ = some (.int .u16 (q.ty : Nat)) ∧ w.cell? ⟨b, 2, none⟩ = some (.int .u16 (q.cl : Nat)) := ⟨cell_of h, cell_of h, cell_of h⟩
theorem QAt.c33 {w : World} {b b' : Nat} {q q' : Qn} (h : QAt w b q) (h' : QAt w b' q') : w.cell? ⟨b, 0, none⟩ = some (.string q.nm) ∧ w.cell? ⟨b, 1, none⟩ = some (.int .u16 (q.ty : Nat)) ∧ w.cell? ⟨b, 2, none⟩ = some (.int .u16 (q.cl : Nat)) ∧ w.cell? ⟨b', 0, none⟩ = some (.string q'.nm) ∧ w.cell? ⟨b', 1, none⟩ = some (.int .u16 (q'.ty : Nat)) ∧ w.cell? ⟨b', 2, none⟩ = some (.int .u16 (q'.cl : Nat)) := ⟨cell_of h, cell_of h, cell_of h, cell_of h', cell_of h', cell_of h'⟩


end Go.Proofs.Ytgdnfempcjlipaa
