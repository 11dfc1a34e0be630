/- The walks of package sip: the hash in memory; before, New, Len, Copy. -/
import Derived.Test.YthaikobmelalgaaSipC
import Derived.Deep.WholeRow
import Derived.Deep.DeepMust
namespace Go.Proofs.Ythaikobmelalgaa
open Go.RowKit

def hashV (k0 k1 : Nat) (v : St) (r : List Nat) (n : Nat) : List Value := .int .u64 k0 :: .int .u64 k1 :: .int .u64 v.a :: .int .u64 v.b :: .int .u64 v.c :: .int .u64 v.d :: (r.map (fun (x : Nat) => Value.int .u8 x) ++ [.int .i64 n])

/-- The block b holds a hash: key, state, rest, total. -/
def RawH (w : World) (b k0 k1 : Nat) (v : St) (r : List Nat) (n : Nat) : Prop := r.length = 8 ∧ w.heap[b]? = some (.cells (hashV k0 k1 v r n).toArray 40 (0, 0))

section
variable {w : World} {b k0 k1 : Nat} {v : St} {r : List Nat} {n : Nat}
theorem RawH.c0 (h : RawH w b k0 k1 v r n) : w.cell? ⟨b, 0, none⟩ = some (.int .u64 k0) := (cell_of h.2).trans rfl
theorem RawH.c1 (h : RawH w b k0 k1 v r n) : w.cell? ⟨b, 1, none⟩ = some (.int .u64 k1) := (cell_of h.2).trans rfl
theorem RawH.c2 (h : RawH w b k0 k1 v r n) : w.cell? ⟨b, 2, none⟩ = some (.int .u64 v.a) := (cell_of h.2).trans rfl
theorem RawH.c3 (h : RawH w b k0 k1 v r n) : w.cell? ⟨b, 3, none⟩ = some (.int .u64 v.b) := (cell_of h.2).trans rfl
theorem RawH.c4 (h : RawH w b k0 k1 v r n) : w.cell? ⟨b, 4, none⟩ = some (.int .u64 v.c) := (cell_of h.2).trans rfl
theorem RawH.c5 (h : RawH w b k0 k1 v r n) : w.cell? ⟨b, 5, none⟩ = some (.int .u64 v.d) := (cell_of h.2).trans rfl
theorem RawH.cr (h : RawH w b k0 k1 v r n) (j : Nat) (hj : j < 8) : w.cell? ⟨b, 6 + j, none⟩ = some (.int .u8 (r.getD j 0 : Nat)) := by
  rw [cell_of h.2, List.getElem?_toArray, Nat.add_comm]
  show (r.map (fun (x : Nat) => Value.int .u8 x) ++ [.int .i64 n])[j]? = _
  have := h.1
  rw [List.getElem?_append_left (by simpa using by omega)]
  simp [show j < r.length by omega]
theorem RawH.ct (h : RawH w b k0 k1 v r n) : w.cell? ⟨b, 14, none⟩ = some (.int .i64 n) := by
  rw [cell_of h.2, List.getElem?_toArray]
  show (r.map (fun (x : Nat) => Value.int .u8 x) ++ [.int .i64 n])[8]? = _
  have := h.1
  rw [List.getElem?_append_right (by simpa using by omega)]
  simp [h.1]
theorem RawH.fr (h : RawH w b k0 k1 v r n) (i : Nat) : w.frozen? ⟨b, i, none⟩ = false := free_of h.2
theorem RawH.lt (h : RawH w b k0 k1 v r n) : b < w.heap.size := lt_of_block h.2
theorem RawH.chg {w' : World} {S : List Nat} (h : RawH w b k0 k1 v r n) (hc : Chg S w w') (hb : b ∉ S) : RawH w' b k0 k1 v r n := ⟨h.1, hc.keep h.2 hb⟩
theorem RawH.setR (h : RawH w b k0 k1 v r n) (j x : Nat) (hj : j < 8) : RawH (w.setCell ⟨b, 6 + j, none⟩ (.int .u8 x)) b k0 k1 v (r.set j x) n := by
  refine ⟨by simpa using h.1, ?_⟩
  have := heap_set (i := 6 + j) h.2 (.int .u8 (x : Nat))
  rw [this]
  have hl := h.1
  congr 2
  rw [List.setIfInBounds_toArray]
  congr 1
  rw [Nat.add_comm]
  unfold hashV
  simp only [List.set_cons_succ]
  rw [List.set_append_left _ _ (by simpa using by omega), List.map_set]
theorem RawH.setT (h : RawH w b k0 k1 v r n) (x : Nat) : RawH (w.setCell ⟨b, 14, none⟩ (.int .i64 x)) b k0 k1 v r x := by
  refine ⟨h.1, ?_⟩
  have := heap_set (i := 14) h.2 (.int .i64 (x : Nat))
  rw [this]
  congr 2
  rw [List.setIfInBounds_toArray]
  congr 1
  unfold hashV
  simp only [List.set_cons_succ]
  rw [List.set_append_right _ _ (by have := h.1; simp; omega)]
  simp [h.1]
theorem RawH.setS (h : RawH w b k0 k1 v r n) (s : St) : RawH ((((w.setCell ⟨b, 2, none⟩ (.int .u64 s.a)).setCell ⟨b, 3, none⟩ (.int .u64 s.b)).setCell ⟨b, 4, none⟩ (.int .u64 s.c)).setCell ⟨b, 5, none⟩ (.int .u64 s.d)) b k0 k1 s r n := by
  refine ⟨h.1, ?_⟩
  rw [heap_set (heap_set (heap_set (heap_set h.2 _) _) _) _]
  rfl
end

def beforeN (k0 k1 : Nat) (v : St) (n most : Nat) : St := if n ≤ most then beginN k0 k1 else v

theorem before_any (b k0 k1 n most : Nat) (v : St) (r : List Nat) (w : World) (h : RawH w b k0 k1 v r n) (h0 : k0 < 18446744073709551616) (h1 : k1 < 18446744073709551616) :
    Calls Try.prog 19 #[.pointer (some ⟨b, 0, none⟩), .int .i64 most] w fun e w' => e = .returned (.agg (stV (beforeN k0 k1 v n most))) ∧ Chg [] w w' := by
  have c0 := h.c0
  have c1 := h.c1
  have c2 := h.c2
  have c3 := h.c3
  have c4 := h.c4
  have c5 := h.c5
  have ct := h.ct
  have hlt := h.lt
  obtain ⟨va, vb, vc, vd⟩ := v
  simp only [] at c2 c3 c4 c5
  unfold beforeN
  by_cases hn : n ≤ most
  · rw [if_pos hn]
    obtain ⟨s, hs⟩ : ∃ s, s = beginN k0 k1 := ⟨_, rfl⟩
    have Q := begin_any k0 k1 h0 h1
    rw [← hs] at Q ⊢
    have QQ := Lib.hid Q
    obtain ⟨sa, sb, sc, sd⟩ := s
    clear hs Q
    unfold stV
    go_enter Try.func19, Try.ntmps19
    go_wp2_with fail
    refine (QQ.out _).mono ?_
    rintro e w1 ⟨rfl, hc1⟩
    have g1 : StAt w1 w.heap.size 37 0 0 0 0 := hc1.keep (heap_new _ _) (by simp)
    have hC : Chg [] w w1 := ((Chg.refl _ _).alloc _).trans hc1
    have m0 := g1.c0
    have m1 := g1.c1
    have m2 := g1.c2
    have m3 := g1.c3
    have e0 := g1.fr 0
    have e1 := g1.fr 1
    have e2 := g1.fr 2
    have e3 := g1.fr 3
    unfold stV
    go_wp2_with fail
    refine bodyPost_ret (v := .agg #[.int .u64 sa, .int .u64 sb, .int .u64 sc, .int .u64 sd]) (by simp [results, Try.results19, go_sem, m0, m1, m2, m3]) rfl ⟨rfl, ?_⟩
    iterate 4 (refine Chg.setCell ?_ (.inr (Nat.le_refl _)) _)
    exact hC
  · rw [if_neg hn]
    unfold stV
    have hn' : decide (n ≤ most) = false := by simpa using hn
    go_enter Try.func19, Try.ntmps19
    go_wp2_with fail
    refine bodyPost_ret (v := .agg #[.int .u64 va, .int .u64 vb, .int .u64 vc, .int .u64 vd]) (by simp [results, Try.results19, go_sem]) rfl ⟨rfl, ?_⟩
    exact (Chg.refl _ _).alloc _

def zst : St := ⟨0, 0, 0, 0⟩
theorem new_any (k0 k1 : Nat) (w : World) :
    Calls Try.prog 11 #[.int .u64 k0, .int .u64 k1] w fun e w' => e = .returned (.pointer (some ⟨w.heap.size, 0, none⟩)) ∧ RawH w' w.heap.size k0 k1 zst (List.replicate 8 0) 0 ∧ Chg [] w w' := by
  go_enter Try.func11, Try.ntmps11
  go_wp2
  go_ret
  exact ⟨rfl, ⟨rfl, heap_new _ _⟩, (Chg.refl _ _).alloc _⟩

theorem len_nil (w : World) :
    Calls Try.prog 14 #[.pointer none] w fun e w' => e = .returned (.int .i64 0) ∧ w = w' := by
  go_enter Try.func14, Try.ntmps14
  go_wp2
  go_ret
  exact ⟨rfl, rfl⟩
theorem len_raw (b k0 k1 n : Nat) (v : St) (r : List Nat) (w : World) (h : RawH w b k0 k1 v r n) :
    Calls Try.prog 14 #[.pointer (some ⟨b, 0, none⟩)] w fun e w' => e = .returned (.int .i64 n) ∧ w = w' := by
  have ct := h.ct
  go_enter Try.func14, Try.ntmps14
  go_wp2
  go_ret
  exact ⟨rfl, rfl⟩

theorem copy_nil (w : World) :
    Calls Try.prog 15 #[.pointer none] w fun e w' => e = .returned (.pointer none) ∧ w = w' := by
  go_enter Try.func15, Try.ntmps15
  go_wp2
  go_ret
  exact ⟨rfl, rfl⟩

def zeroH : List Value := hashV 0 0 zst (List.replicate 8 0) 0
theorem hash_zero (w : World) : (zeroValue 40).run Try.prog w = .ok (.agg zeroH.toArray) w := by kernel_rfl
theorem hash_size : (Try.prog.info? 40).map (·.size) = some 15 := by kernel_rfl
theorem hashV_size (k0 k1 n : Nat) (v : St) (r : List Nat) (h : r.length = 8) : (hashV k0 k1 v r n).toArray.size = 15 := by simp [hashV, h]
theorem hashV_one (k0 k1 n : Nat) (v : St) (r : List Nat) : (hashV k0 k1 v r n).toArray.all (·.oneCell') = true := by
  simp only [List.all_toArray, hashV, List.all_cons, List.all_append, List.all_map, List.all_nil, Value.oneCell']
  simp [List.all_eq_true, Value.oneCell']

theorem copy_raw (b k0 k1 n : Nat) (v : St) (r : List Nat) (w : World) (h : RawH w b k0 k1 v r n) :
    Calls Try.prog 15 #[.pointer (some ⟨b, 0, none⟩)] w fun e w' => e = .returned (.pointer (some ⟨w.heap.size, 0, none⟩)) ∧ RawH w' w.heap.size k0 k1 v r n ∧ Chg [] w w' := by
  have hz := hash_zero
  have hst := run_storeCells_new (P := Try.prog) w 40 zeroH.toArray (hashV k0 k1 v r n).toArray (by rw [hash_size, hashV_size _ _ _ _ _ h.1]) (by rw [hashV_size _ _ _ _ _ h.1]; rfl) (hashV_one _ _ _ _ _)
  have HSZ := Lib.hid (show (Try.prog.info? 40).map (·.size) = some (hashV k0 k1 v r n).toArray.size by rw [hash_size, hashV_size _ _ _ _ _ h.1])
  obtain ⟨C, hC⟩ : ∃ C, C = (hashV k0 k1 v r n).toArray := ⟨_, rfl⟩
  obtain ⟨Z, hZ⟩ : ∃ Z, Z = zeroH.toArray := ⟨_, rfl⟩
  have HR := Lib.hid h
  have HB := Lib.hid h.2
  rw [← hC] at hst HSZ HB
  rw [← hZ] at hst hz
  have HC := Lib.hid hC
  have hs15 : C.size = 15 := by rw [hC]; exact hashV_size _ _ _ _ _ h.1
  clear h hC hZ
  go_enter Try.func15, Try.ntmps15
  go_wp2_with (refine wpList_load_row rfl 40 _ rfl b rfl 40 _ (0, 0) _ HB.out Try.underlying40 rfl HSZ.out ?_)
  go_ret
  exact ⟨rfl, ⟨HR.out.1, by rw [← HC.out]; exact heap_new _ _⟩, (Chg.refl _ _).alloc _⟩

end Go.Proofs.Ythaikobmelalgaa
