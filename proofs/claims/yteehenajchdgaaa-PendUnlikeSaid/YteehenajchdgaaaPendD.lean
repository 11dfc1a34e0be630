/- The walks of a table of IDs: Copy, Draw. -/
import Derived.Test.YteehenajchdgaaaPendC
namespace Go.Proofs.Yteehenajchdgaaa
open Go.RowKit Go.Maps

def CopyRel (n tb g : Nat) (L : List Ou) (w : World) (i : Value) (wr : World) : Prop :=
  ∃ ms : List Nat, ms.length ≤ n ∧ i = .int .i64 (ms.length : Nat) ∧ Half wr tb g n ms (fun i => outsP L (i : Int)) w.heap.size ∧ Chg [] w wr
/-- What a round of Copy reads and writes. -/
structure CopyS (tb g tb' g' n j m : Nat) (W : World) : Prop where
  a : W.cell? ⟨tb, 0, none⟩ = some (.slice (some ⟨g, 0, none⟩) n n)
  b : W.cell? ⟨g, j, none⟩ = some (.map (some m))
  c : W.cell? ⟨tb', 0, none⟩ = some (.slice (some ⟨g', 0, none⟩) n n)
  d : W.cell? ⟨g', j, none⟩ = some (.map none)
  e : W.frozen? ⟨g', j, none⟩ = false
theorem copy_nil (w : World) : Calls Try.prog 15 #[.pointer none] w fun e w' => e = .returned (.pointer none) ∧ w = w' := by
  go_enter Try.func15, Try.ntmps15
  go_wp2
  go_ret
  exact ⟨rfl, rfl⟩
set_option maxHeartbeats 1000000 in
theorem copy_any (tb : Nat) (ms : List Nat) (n : Nat) (L : List Ou) (w : World) (h : PTab w tb ms n L) :
    Calls Try.prog 15 #[.pointer (some ⟨tb, 0, none⟩)] w fun e w' => ∃ tb' ms', e = .returned (.pointer (some ⟨tb', 0, none⟩)) ∧ PTab w' tb' ms' n L ∧ w.heap.size ≤ tb' ∧ (∀ m ∈ ms', w.heap.size ≤ m) ∧ Chg [] w w' := by
  obtain ⟨g, h1, h2⟩ := h.head
  have h9 := h.n9
  have hl1 := h.n1
  have c0 : w.cell? ⟨tb, 0, none⟩ = some (.slice (some ⟨g, 0, none⟩) n n) := cell_of h1
  have hmk := run_make_maps w n h9
  have tbl : tb < w.heap.size := lt_of_block h1
  have H1 := Lib.hid h1
  have H2 := Lib.hid h2
  have H0 := Lib.hid h
  have hlen := h.len
  have HLEN := Lib.hid hlen
  clear h1 h2 h hlen
  go_enter Try.func15, Try.ntmps15
  go_wp2
  have hH : Half ((w.alloc (.cells (rowP n []) 69)).alloc (.cells #[.slice (some ⟨w.heap.size, 0, none⟩) n n] 55)) (w.heap.size + 1) w.heap.size n [] (fun i => outsP L (i : Int)) w.heap.size :=
    ⟨heap_new' _ _ _ (by simp), heap_old (heap_new _ _), by simp, fun i hi => by simp at hi, by simp⟩
  have hC : Chg [] w ((w.alloc (.cells (rowP n []) 69)).alloc (.cells #[.slice (some ⟨w.heap.size, 0, none⟩) n n] 55)) := ((Chg.refl _ _).alloc _).alloc _
  obtain ⟨tb', htb⟩ : ∃ tb', tb' = w.heap.size + 1 := ⟨_, rfl⟩
  obtain ⟨g', hg⟩ : ∃ g', g' = w.heap.size := ⟨_, rfl⟩
  have hle : w.heap.size ≤ tb' := by omega
  have hgle : w.heap.size ≤ g' := by omega
  rw [← htb, ← hg] at hH
  rw [← htb]
  rw [← hg] at hC ⊢
  have HH := Lib.hid hH
  have HC := Lib.hid hC
  clear htb hH hC hmk
  go_loopw [20] (CopyRel n tb' g' L w) (fun i _ => n - (intOf i).toNat)
  case atStart => exact ⟨[], Nat.zero_le _, rfl, by rw [hg] at *; exact HH.out, by rw [hg] at *; exact HC.out⟩
  case round =>
    clear HH HC hg c0
    obtain ⟨ms', hj, rfl, hH, hck⟩ := hrel
    by_cases hlt : ms'.length < n
    · have hjm : ms'.length < ms.length := by have := HLEN.out; omega
      obtain ⟨m, hm⟩ : ∃ m, m = ms[ms'.length] := ⟨_, rfl⟩
      have hMU : MapU wr m (outsP L (ms'.length : Int)) := by rw [hm]; exact (H0.out.same hck).maps _ hjm
      have hS : CopyS tb g tb' g' n ms'.length m wr := ⟨cell_of (hck.keep H1.out (by simp)), by rw [cell_of (hck.keep H2.out (by simp)), hm]; exact mapRow_get ms _ hjm, cell_of hH.head, by rw [cell_of hH.row]; exact rowP_none n ms' _ (Nat.le_refl _) hlt, free_of hH.row⟩
      have hSc : ∀ w', Chg [] wr w' → CopyS tb g tb' g' n ms'.length m w' := by
        intro w' hc
        exact ⟨hc.cell hS.a (by simp), hc.cell hS.b (by simp), hc.cell hS.c (by simp), hc.cell hS.d (by simp), free_of (hc.keep hH.row (by simp))⟩
      have hnew : ∀ w' m', Chg [] wr w' → MapU w' m' (outsP L (ms'.length : Int)) → wr.heap.size ≤ m' → Half (w'.setCell ⟨g', ms'.length, none⟩ (.map (some m'))) tb' g' n (ms' ++ [m']) (fun i => outsP L (i : Int)) w.heap.size := by
        intro w' m' hc hm' hle
        exact hH.step hc hm' (Nat.le_trans hck.size hle) hle hlt
      have HNEW := Lib.hid hnew
      have HSC := Lib.hid hSc
      clear hH hnew hSc hm hjm
      obtain ⟨j, hjj⟩ : ∃ j, j = ms'.length := ⟨_, rfl⟩
      rw [← hjj] at hS hlt HNEW HSC hMU ⊢
      have HJJ := Lib.hid hjj
      clear hjj hj
      obtain ⟨sa, sb, sc, sd, se⟩ := hS
      go_wp2_with fail
      go_region_with ((go_at_call 31; refine (clone_any m (outsP L (j : Int)) _ ?_).mono ?_; exact hMU; rintro e9 w5 ⟨m5, rfl, hm5, hM5, hc5⟩; replace hc5 := hc5.undrew; obtain ⟨ka, kb, kc, kd, ke⟩ := HSC.out w5 hc5))
      all_goals
        go_wp2
        go_roundw
        case rel =>
          refine ⟨ms' ++ [m5], by rw [List.length_append, ← HJJ.out]; simp; omega, by rw [List.length_append, ← HJJ.out]; go_num, ?_, (hck.trans hc5).setCell (.inr hgle) _⟩
          exact HNEW.out w5 m5 hc5 hM5 hm5
        case measure => simp [intOf] <;> omega
    · have hl : ms'.length = n := by omega
      have hP := hH.all hl H0.out.ok hl1 h9
      have hlo := hH.lo
      have HP := Lib.hid hP
      have HLO := Lib.hid hlo
      clear hP hlo hH
      rw [hl]
      clear hl
      go_wp2
      go_ret
      exact ⟨tb', ms', rfl, HP.out, hle, HLO.out, hck⟩

end Go.Proofs.Yteehenajchdgaaa
