/- The walk of Next on a tape that nobody made. -/
import Derived.Test.YteoenajklllakaaDrawC
namespace Go.Proofs.Yteoenajklllakaa
open Go.RowKit

theorem next_zero (b n : Nat) (w : World) (h1 : w.heap[b]? = some (.cells #[.nilFunc, .int .i64 n] 50 (0, 0))) (hn : n < 4611686018427387904) :
    Calls Try.prog 11 #[.pointer (some ⟨b, 0, none⟩)] w fun e w' => e = .returned (.int .u64 (drawN 0 [] n)) ∧ TapeAt w' b 0 [] (n + 1) ∧ Chg [b] w w' := by
  have c0 : w.cell? ⟨b, 0, none⟩ = some .nilFunc := cell_of h1
  have hlt := lt_of_block h1
  have H1 := Lib.hid h1
  clear h1
  have hq : ∀ (w : World), (binOp BinOp.eql 48 .nilFunc .nilFunc).run Try.prog w = .ok (.bool true) w := fun _ => by kernel_rfl
  go_enter Try.func11, Try.ntmps11
  go_wp2_with fail
  refine (from_any 0 none 0 0 w).mono ?_
  rintro e w1 ⟨rfl, hw1⟩
  have g1 : w1.heap[b]? = some (.cells #[.nilFunc, .int .i64 n] 50 (0, 0)) := by rw [hw1]; exact heap_old (heap_old H1.out)
  have gn : w1.heap[w.heap.size + 1]? = some (.cells #[.slice none 0 0] 28 (0, 0)) := by rw [hw1]; exact heap_new' _ _ _ (by simp)
  have gs : w1.heap[w.heap.size]? = some (.cells #[.int .u64 (0 : Nat)] 22 (0, 0)) := by rw [hw1]; exact heap_old (heap_new _ _)
  have hc1 : Chg [b] w w1 := by rw [hw1]; exact ((Chg.refl _ _).alloc _).alloc _
  clear hw1 H1 c0
  have c0 : w1.cell? ⟨b, 0, none⟩ = some .nilFunc := cell_of g1
  have f0 : w1.frozen? ⟨b, 0, none⟩ = false := free_of g1
  obtain ⟨nb, hnb⟩ : ∃ nb, nb = w.heap.size + 1 := ⟨_, rfl⟩
  obtain ⟨sb, hsb⟩ : ∃ sb, sb = w.heap.size := ⟨_, rfl⟩
  rw [← hnb] at gn ⊢
  rw [← hsb] at gs ⊢
  have hnbb : nb ≠ b := by omega
  have hsbb : sb ≠ b := by omega
  have G1 := Lib.hid g1
  have GN := Lib.hid gn
  have GS := Lib.hid gs
  clear hnb hsb g1 gn gs
  unfold srcOf
  obtain ⟨w2, hw2⟩ : ∃ w2, w2 = w1.setCell ⟨b, 0, none⟩ (srcOf nb sb) := ⟨_, rfl⟩
  have k1 : w2.heap[b]? = some (.cells #[srcOf nb sb, .int .i64 n] 50 (0, 0)) := by rw [hw2, heap_set G1.out]; rfl
  have kn : w2.heap[nb]? = some (.cells #[.slice none 0 0] 28 (0, 0)) := by rw [hw2, heap_set_other _ hnbb]; exact GN.out
  have ks : w2.heap[sb]? = some (.cells #[.int .u64 (0 : Nat)] 22 (0, 0)) := by rw [hw2, heap_set_other _ hsbb]; exact GS.out
  have hnum : Nums w2 (.slice none 0 0) [] := ⟨Nat.zero_le _, by simp, .inl ⟨rfl, _, _, rfl⟩⟩
  have hc2 : Chg [b] w w2 := by rw [hw2]; exact hc1.trans (Chg.set1 _ _ _ _)
  have HW2 := Lib.hid hw2
  clear hw2
  go_wp2_with fail
  have e2 := HW2.out
  unfold srcOf at e2
  rw [← e2]
  clear e2 HW2 c0 f0
  have c0 : w2.cell? ⟨b, 0, none⟩ = some (srcOf nb sb) := cell_of k1
  have c1 : w2.cell? ⟨b, 0 + 1, none⟩ = some (.int .i64 n) := cell_of k1
  have f1 : w2.frozen? ⟨b, 0 + 1, none⟩ = false := free_of k1
  have K1 := Lib.hid k1
  have KN := Lib.hid kn
  have KS := Lib.hid ks
  clear k1 kn ks
  unfold srcOf at c0
  have hsrc := fun (m : Nat) => source_any n 0 [] nb sb (.slice none 0 0) (w2.drewN m) KN.out KS.out hnum hn
  go_quiet ((go_at_call 26; exact Calls.quiet_of_same ((hsrc _).mono fun e w' h => ⟨h.1, h.2.symm⟩)))
  go_wp2
  go_ret
  exact ⟨rfl, tape_step K1.out KN.out KS.out hnum, (hc2.drewN _).setCell (.inl (List.Mem.head _)) _⟩

end Go.Proofs.Yteoenajklllakaa
