/- The document's book: New. -/
import Derived.Test.YtdbannnbbngckaaRefF
namespace Go.Proofs.Ytdbannnbbngckaa
open Go.RowKit

theorem Try.elemOneR : (Try.prog.info? 90).map (fun i => (i.zero, i.size, i.bytes)) = some (some (.agg #[.int .i64 0, .int .i64 0, .int .i64 0, .int .i64 0, .bool false, .bool false, .int .i64 0]), 7, 48) := by kernel_rfl

theorem new_up' (w : World) (T : TypeId) : ∀ j u, (upV up0)[j]? = some u → (w.alloc (.cells #[.int .i64 100, .int .i64 0, .int .i64 0, .int .i64 0, .bool false, .bool false, .int .i64 0] T)).cell? ((⟨w.heap.size, 0, none⟩ : Addr).add j) = some u := by
  intro j u hj
  rw [add_at, Nat.zero_add, cell_of (heap_new w _), ← hj, List.getElem?_toArray]
  rfl

def RNewR (b L R n : Nat) (w : World) (i : Value) (wr : World) : Prop :=
  ∃ (k : Nat) (v : Value), k ≤ n ∧ i = .int .i64 k ∧ wr.heap[b]? = some (.cells #[.int .i64 L, .int .i64 R, v] 88 (0, 0)) ∧ wr.ownsRow (b + 1) 90 7 v k (upsV (List.replicate k up0)) ∧ b + 1 ≤ wr.heap.size ∧ Chg [] w wr

set_option maxRecDepth 100000 in
set_option maxHeartbeats 2000000 in
theorem rnew_any (n L R : Nat) (w : World) (hn : n = 1 ∨ n = 3 ∨ n = 5 ∨ n = 7 ∨ n = 9) (hL1 : 1 ≤ L) (hL : L ≤ 100) (hR1 : 1 ≤ R) (hR : R ≤ 100000) :
    Calls Try.prog 36 #[.int .i64 n, .int .i64 L, .int .i64 R] w fun e w' => ∃ b r, e = .returned (.tuple #[.pointer (some ⟨b, 0, none⟩), .int .i64 0]) ∧ w.heap.size ≤ b ∧ w.heap.size ≤ r ∧ RBook w' b r L R (newB n) ∧ Chg [] w w' := by
  have d1 : decide ((n : Int) < 1) = false := by simp; omega
  have d2 : decide (9 < (n : Int)) = false := by simp; omega
  have d3 : ((n : Int) % 2 != 1) = false := by simp; omega
  have d4 : decide ((L : Int) < 1) = false := by simp; omega
  have d5 : decide (100 < (L : Int)) = false := by simp; omega
  have d6 : decide ((R : Int) < 1) = false := by simp; omega
  have d7 : decide (100000 < (R : Int)) = false := by simp; omega
  have n9 : n ≤ 9 := by omega
  have n1 : 1 ≤ n := by omega
  obtain ⟨i0, hi0, hz0, hz1, hz2⟩ := info_parts Try.elemOneR
  clear hn
  go_enter Try.func36, Try.ntmps36
  go_wp2
  obtain ⟨b, hb⟩ : ∃ b, b = w.heap.size := ⟨_, rfl⟩
  refine wp_abs ?_
  intro w0 hw0
  have hb0 : w0.heap[b]? = some (.cells #[.int .i64 L, .int .i64 R, .slice none 0 0] 88 (0, 0)) := by rw [hw0, hb]; exact heap_new _ _
  have hC0 : Chg [] w w0 := by rw [hw0]; exact (Chg.refl _ _).alloc _
  have hs0 : b + 1 ≤ w0.heap.size := by have := lt_of_block hb0; omega
  rw [← hb]
  have hwb : w.heap.size ≤ b := by omega
  clear hw0 hb
  go_loopw [9] (RNewR b L R n w) (fun i _ => n - (intOf i).toNat)
  case atStart => exact ⟨0, _, Nat.zero_le _, rfl, hb0, ⟨rfl, .inl ⟨rfl, rfl⟩⟩, hs0, hC0⟩
  case round =>
    clear hb0 hC0 hs0
    obtain ⟨k, v, hk, rfl, hb1, hown, hsz, hC⟩ := hrel
    by_cases hlt : k < n
    · obtain ⟨av, cv, hv⟩ := owns_len hown
      have HOWN := Lib.hid hown
      subst hv
      have c2 : wr.cell? ⟨b, 2, none⟩ = some (.slice av k cv) := (cell_of hb1).trans rfl
      have HB1 := Lib.hid hb1
      have NU := new_up' wr 90
      have HNU := Lib.hid NU
      clear hown NU hb1
      go_wp2_with (at_builtin; go_must (refine wpList_append_own _ rfl _ _ 86 rfl (b + 1) 90 i0 _ 7 48 Try.underlying86 hi0 hz0 hz1 hz2 rfl (by decide) _ k _ rfl (HOWN.out.alloc _) ⟨wr.heap.size, 0, none⟩ 1 1 (upV up0) rfl rfl HNU.out (fun u hu => by simp only [upV, List.mem_cons, List.not_mem_nil, or_false] at hu; rcases hu with rfl | rfl | rfl | rfl | rfl | rfl | rfl <;> rfl) (by unfold maxLen; omega) (by omega) (by simp; omega) ?_); go_must (intro v1 w1 hown1 hg1 _; obtain ⟨a1, c1, hv1⟩ := owns_len hown1; subst hv1; have hb2 : w1.heap[b]? = some (.cells #[.int .i64 L, .int .i64 R, .slice av k cv] 88 (0, 0)) := (hg1.block b (by simp; omega) (fun e => (by rcases owns_block HOWN.out b e.symm with hh | hh; simp at hh; omega))).trans (heap_old HB1.out); have k2 : w1.cell? ⟨b, 2, none⟩ = some (.slice av k cv) := (cell_of hb2).trans rfl; have kf : w1.frozen? ⟨b, 2, none⟩ = false := free_of hb2; have hC1 : Chg [] w w1 := (hC.alloc (.cells #[.int .i64 100, .int .i64 0, .int .i64 0, .int .i64 0, .bool false, .bool false, .int .i64 0] 90)).grown hg1 (owns_blockS HOWN.out (by omega))))
      go_roundw
      case rel =>
        refine ⟨k + 1, .slice a1 (k + 1) c1, by omega, by go_num, heap_set hb2 _, ?_, ?_, hC1.setCell (.inr hwb) _⟩
        · rw [List.replicate_succ', upsV_append]
          exact owns_chg hown1 (Chg.set1 _ _ _ _) (by simp)
        · have := hg1.size; simp at this ⊢; omega
      case measure => simp [intOf] <;> omega
    · obtain rfl : k = n := by omega
      have hlk : (List.replicate k up0).length = k := by simp
      have hown2 : wr.ownsRow (b + 1) 90 7 v (List.replicate k up0).length (upsV (List.replicate k up0)) := by rw [hlk]; exact hown
      obtain ⟨g, cg, hv, hgb, hgc, hups⟩ := ups_of_own hown2 (by omega)
      rw [hlk] at hv hgc
      subst hv
      clear hown hown2 hlk
      go_wp2
      go_ret2
      exact ⟨b, g, rfl, hwb, by omega, ⟨hL, hR, by simpa [newB] using n9, newB_ok k, by omega, ⟨cg, by simpa [newB] using hgc, by simpa [newB] using hb1⟩, hups⟩, hC⟩

end Go.Proofs.Ytdbannnbbngckaa
