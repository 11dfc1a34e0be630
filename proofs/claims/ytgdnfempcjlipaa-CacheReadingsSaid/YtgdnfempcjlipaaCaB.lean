/- Rows that are the same are told to be so. -/
import Derived.Test.YtgdnfempcjlipaaCaA
namespace Go.Proofs.Ytgdnfempcjlipaa
open Go.RowKit Go.Maps

theorem OkM.okq {n : Nat} {c : Cst} (h : OkM n c) : ∀ q ∈ c.M.map (·.q), OkQ q := by
  intro q hq
  obtain ⟨e, he, rfl⟩ := List.mem_map.1 hq
  obtain ⟨h1, _, h3, h4⟩ := h.may e he
  have h2 := (mayB_len h1).2
  rw [size_list] at h2
  exact ⟨by unfold maxLen; omega, h3, h4⟩
set_option maxRecDepth 100000 in
set_option maxHeartbeats 2000000 in
theorem same_true (v1 v2 : Value) (l : List Qn) (w : World) (h1 : RdR qL w v1 l) (h2 : RdR qL w v2 l) (hok : ∀ q ∈ l, OkQ q) (hl : l.length ≤ 1000) :
    Calls Try.prog 23 #[v1, v2] w fun e w' => e = .returned (.bool true) ∧ Chg [] w w' := by
  obtain ⟨a1, c1, e1, _⟩ := id h1
  obtain ⟨a2, c2, e2, _⟩ := id h2
  subst e1
  subst e2
  obtain ⟨n, hn⟩ : ∃ n, n = l.length := ⟨_, rfl⟩
  have H1 := Lib.hid h1
  have H2 := Lib.hid h2
  have HN := Lib.hid hn
  have HOK := Lib.hid hok
  rw [← hn] at hl ⊢
  clear h1 h2 hn hok
  go_enter Try.func23, Try.ntmps23
  go_wp2_with fail
  go_loopw [5] (fun i wr => CntR n w i wr) (fun i _ => n - (intOf i).toNat)
  case atStart => exact ⟨0, Nat.zero_le _, rfl, Chg.refl _ _⟩
  case round =>
    obtain ⟨j, hj, rfl, hck⟩ := hrel
    by_cases hlt : j < n
    · have hjd : j < l.length := by rw [← HN.out]; exact hlt
      obtain ⟨x1, o1, rfl, _, q1⟩ := H1.out.flat qL_len hjd (by omega)
      obtain ⟨x2, o2, rfl, _, q2⟩ := H2.out.flat qL_len hjd (by omega)
      have hq := HOK.out l[j] (List.getElem_mem hjd)
      obtain ⟨⟨nm, ty, cl⟩, hs⟩ : ∃ s, s = l[j] := ⟨_, rfl⟩
      rw [← hs] at q1 q2 hq
      have d0 : wr.cell? ⟨x1, o1 + j * 3, none⟩ = some (.string nm) := hck.cell (q1 0 _ rfl) (by simp)
      have d1 : wr.cell? ⟨x1, o1 + j * 3 + 1, none⟩ = some (.int .u16 (ty : Nat)) := by rw [Nat.add_assoc]; exact hck.cell (q1 1 _ rfl) (by simp)
      have d2 : wr.cell? ⟨x1, o1 + j * 3 + 2, none⟩ = some (.int .u16 (cl : Nat)) := by rw [Nat.add_assoc]; exact hck.cell (q1 2 _ rfl) (by simp)
      have f0 : wr.cell? ⟨x2, o2 + j * 3, none⟩ = some (.string nm) := hck.cell (q2 0 _ rfl) (by simp)
      have f1 : wr.cell? ⟨x2, o2 + j * 3 + 1, none⟩ = some (.int .u16 (ty : Nat)) := by rw [Nat.add_assoc]; exact hck.cell (q2 1 _ rfl) (by simp)
      have f2 : wr.cell? ⟨x2, o2 + j * 3 + 2, none⟩ = some (.int .u16 (cl : Nat)) := by rw [Nat.add_assoc]; exact hck.cell (q2 2 _ rfl) (by simp)
      have hne : ∀ W : World, (binOp .neq 24 (.agg #[.string nm, .int .u16 (ty : Nat), .int .u16 (cl : Nat)]) (.agg #[.string nm, .int .u16 (ty : Nat), .int .u16 (cl : Nat)])).run Try.prog W = .ok (.bool false) W := by
        intro W
        have := neqQ W hq hq
        simpa using this
      clear q1 q2 hs hq
      go_wp2_with fail
      go_quiet (fail)
      go_wp2
      go_roundw
      case rel => first | exact ⟨j + 1, by omega, by go_num, hck.drewN _⟩ | ((repeat apply Exists.intro); exact ⟨⟨j + 1, by omega, by go_num, hck.drewN _⟩, rfl⟩)
      case measure => simp [intOf] <;> omega
    · obtain rfl : j = n := by omega
      go_wp2
      go_ret
      exact ⟨rfl, hck⟩
/-- Rows told of caches are the same. -/
theorem same_rows {b1 b2 : Nat} {v1 v2 : Value} {l : List Qn} {w : World} (h1 : R.OwnR 24 3 qL b1 w v1 l) (h2 : R.OwnR 24 3 qL b2 w v2 l) (hok : ∀ q ∈ l, OkQ q) (hl : l.length ≤ 1000) :
    Calls Try.prog 23 #[v1, v2] w fun e w' => e = .returned (.bool true) ∧ Chg [] w w' := same_true v1 v2 l w (RdR.of h1) (RdR.of h2) hok hl

end Go.Proofs.Ytgdnfempcjlipaa
