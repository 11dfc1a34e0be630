/- The walk of Shuffle. -/
import Derived.Test.YtdbannnbbngckaaDrawC
import Derived.Test.YtdbannnbbngckaaDrawPl2
import Derived.RegionTactic
import Derived.ChangeAlike
import Derived.BigRegion
namespace Go.Proofs.Ytdbannnbbngckaa.D
open Go.RowKit

theorem Try.elemInt : (Try.prog.info? 3).map (fun i => (i.zero, i.size, i.bytes)) = some (some (.int .i64 0), 1, 8) := by kernel_rfl

theorem shuffle_out (p : Option Addr) (n : Int) (w : World) (hn : n < 1 ∨ 256 < n) :
    Calls Try.prog 22 #[.pointer p, .int .i64 n] w fun e w' => e = .returned (.slice none 0 0) ∧ w = w' := by
  cases p with
  | none => exact shuffle_nil n w
  | some p =>
    rcases hn with hn | hn
    · go_enter Try.func22, Try.ntmps22
      go_wp2
      go_ret
      exact ⟨rfl, rfl⟩
    · have h1 : ¬ n < 1 := by omega
      go_enter Try.func22, Try.ntmps22
      go_wp2
      go_ret
      exact ⟨rfl, rfl⟩

theorem below_at (b seed : Nat) (l : List Nat) (n mn r : Nat) (m : Int) (w : World) (ht : TapeAt w b seed l n) (hn : n < 4611686018427387904) (hm : m = mn) (hr : r = drawN seed l n % mn) (hm1 : 1 ≤ mn) (hm2 : mn < 9223372036854775808) :
    Calls Try.prog 43 #[.pointer (some ⟨b, 0, none⟩), .int .i64 m] w fun e w' => e = .returned (.int .i64 r) ∧ TapeAt w' b seed l (n + 1) ∧ Chg [b] w w' := by
  subst hm; subst hr; exact below_any b seed l n mn w ht hn hm1 hm2

theorem cell_set_some {w : World} {p q : Addr} {x v : Value} (h : w.cell? q = some v) : ∃ v', (w.setCell p x).cell? q = some v' := by
  by_cases e : p = q
  · subst e; exact ⟨x, World.cell?_setCell_same w p x h⟩
  · exact ⟨v, (World.cell?_setCell_other w p q x e).trans h⟩

def ShufRel1 (b seed : Nat) (l : List Nat) (used n : Nat) (w : World) (i : Value) (wr : World) : Prop :=
  ∃ k : Nat, k ≤ n ∧ i = .int .i64 k ∧ wr.heap[w.heap.size]? = some (.cells (rowI .i64 (fillN n k)) 3 (0, 0)) ∧ TapeAt wr b seed l used ∧ Chg [] w wr

def ShufRel2 (b seed : Nat) (l : List Nat) (used n : Nat) (w : World) (v : Value) (wr : World) : Prop :=
  ∃ (i : Nat) (cur : List Nat), i ≤ n - 1 ∧ v = .int .i64 i ∧ wr.heap[w.heap.size]? = some (.cells (rowI .i64 cur) 3 (0, 0)) ∧ cur.length = n ∧
    shufD (drawN seed l) i (used + (n - 1 - i)) cur = shufN (drawN seed l) used n ∧ TapeAt wr b seed l (used + (n - 1 - i)) ∧ Chg [b] w wr

set_option maxHeartbeats 1000000 in
theorem shuffle_any (b seed : Nat) (l : List Nat) (used n : Nat) (w : World) (ht : TapeAt w b seed l used) (hu : used < 4000000000000000000) (hn1 : 1 ≤ n) (hn2 : n ≤ 256) :
    Calls Try.prog 22 #[.pointer (some ⟨b, 0, none⟩), .int .i64 n] w fun e w' =>
      e = .returned (.slice (some ⟨w.heap.size, 0, none⟩) n n) ∧ w'.heap[w.heap.size]? = some (.cells (rowI .i64 (shufN (drawN seed l) used n)) 3 (0, 0)) ∧
      TapeAt w' b seed l (used + (n - 1)) ∧ Chg [b] w w' := by
  have hmk := run_make_ints (P := Try.prog) w 32 3 .i64 n 8 Try.underlying32 Try.elemInt (by omega) (by omega)
  go_enter Try.func22, Try.ntmps22
  go_wp2
  go_loopw [23] (ShufRel1 b seed l used n w) (fun i _ => n - (intOf i).toNat)
  case atStart => exact ⟨0, Nat.zero_le _, rfl, by rw [fillN_zero]; exact heap_new _ _, ht.alloc _, (Chg.refl _ _).alloc _⟩
  case round =>
    obtain ⟨k, hk, rfl, hr, htr, hc⟩ := hrel
    by_cases hlt : k < n
    · have c1 : wr.cell? ⟨w.heap.size, k, none⟩ = some (.int .i64 ((fillN n k)[k]'(by rw [fillN_length _ _ hk]; exact hlt) : Nat)) := (cell_of hr).trans (rowI_get _ _ _ (by rw [fillN_length _ _ hk]; exact hlt))
      have f1 : wr.frozen? ⟨w.heap.size, k, none⟩ = false := free_of hr
      have HR := Lib.hid hr
      clear hr
      go_wp2
      go_roundw
      case rel =>
        refine ⟨k + 1, by omega, by go_num, ?_, ?_, ?_⟩
        · rw [heap_set HR.out, rowI_set, fillN_succ _ _ hlt]
        · refine htr.chg (S := [w.heap.size]) (Chg.set1 _ _ _ _) ?_ ?_
          · have := ht.lt; simp; omega
          · intro j hj; simp at hj; subst hj; exact ⟨_, _, _, HR.out, by decide, by decide⟩
        · exact hc.setCell (.inr (Nat.le_refl _)) _
      case measure => simp [intOf]; omega
    · obtain rfl : k = n := by omega
      have HR := Lib.hid hr
      clear hr
      have tok : Hid (1 ≤ k) := hn1
      go_wp2
      go_loopw [7] (ShufRel2 b seed l used k w) (fun i _ => (intOf i).toNat)
      case atStart =>
        refine ⟨k - 1, List.range k, Nat.le_refl _, by go_num, ?_, by simp, ?_, ?_, hc.mono (by simp)⟩
        · rw [← fillN_all]; exact HR.out
        · simp [shufN]
        · simpa using htr
      case round =>
        obtain ⟨i, cur, hi, rfl, hrow, hlen, hsh, htp, hcc⟩ := hrel
        by_cases hpos : 0 < i
        · obtain ⟨j, hj⟩ : ∃ j, j = drawN seed l (used + (k - 1 - i)) % (i + 1) := ⟨_, rfl⟩
          have hjlt : j < i + 1 := by rw [hj]; exact Nat.mod_lt _ (by omega)
          have HJ := Lib.hid hj
          have HROW := Lib.hid hrow
          have HLEN := Lib.hid hlen
          have HSH := Lib.hid hsh
          clear hj hrow hlen hsh
          go_wp2_with fail
          refine (below_at b seed l _ (i + 1) j _ _ htp (by omega) (by omega) HJ.out (by omega) (by omega)).mono ?_
          rintro e w2 ⟨rfl, ht2, hc2⟩
          have hrow2 := hc2.keep HROW.out (by have := ht.lt; simp; omega)
          have gi : i < cur.length := by rw [HLEN.out]; omega
          have gj : j < cur.length := by rw [HLEN.out]; omega
          have ci : w2.cell? ⟨w.heap.size, i, none⟩ = some (.int .i64 (cur[i] : Nat)) := (cell_of hrow2).trans (rowI_get _ _ _ gi)
          have cj : w2.cell? ⟨w.heap.size, j, none⟩ = some (.int .i64 (cur[j] : Nat)) := (cell_of hrow2).trans (rowI_get _ _ _ gj)
          have fi : w2.frozen? ⟨w.heap.size, i, none⟩ = false := free_of hrow2
          have fj : w2.frozen? ⟨w.heap.size, j, none⟩ = false := free_of hrow2
          have HROW2 := Lib.hid hrow2
          clear hrow2
          go_wp2
          obtain ⟨v', hy'⟩ := cell_set_some (w := w2) (p := ⟨w.heap.size, i, none⟩) (x := .int .i64 (cur[j] : Nat)) (q := ⟨w.heap.size, j, none⟩) cj
          go_region
          go_wp2
          go_roundw
          case rel =>
            refine ⟨i - 1, swapL cur i j, by omega, by go_num, ?_, by rw [swapL_length]; exact HLEN.out, ?_, ?_, ?_⟩
            · show ((w2.setCell _ _).setCell _ _).heap[w.heap.size]? = _
              rw [heap_set (heap_set HROW2.out _), rowI_set, rowI_set, swapL_eq _ _ _ gi gj]
            · rw [← HSH.out, shufD_pos _ _ _ _ hpos, ← HJ.out, show used + (k - 1 - (i - 1)) = used + (k - 1 - i) + 1 by omega]
            · rw [show used + (k - 1 - (i - 1)) = used + (k - 1 - i) + 1 by omega]
              refine ht2.chg (S := [w.heap.size]) (((Chg.set1 _ _ _ _).trans (Chg.set1 _ _ _ _)).drew) ?_ ?_
              · have := ht.lt; simp; omega
              · intro j hj; simp at hj; subst hj; exact ⟨_, _, _, HROW2.out, by decide, by decide⟩
            · exact (((hcc.trans hc2).setCell (.inr (Nat.le_refl _)) _).setCell (.inr (Nat.le_refl _)) _).drew
          case measure => simp [intOf]; omega
        · obtain rfl : i = 0 := by omega
          have HROW := Lib.hid hrow
          have HLEN := Lib.hid hlen
          have HSH := Lib.hid hsh
          clear hrow hlen hsh
          go_wp2
          go_ret
          refine ⟨rfl, ?_, ?_, hcc⟩
          · rw [← HSH.out]; exact HROW.out
          · simpa using htp

end Go.Proofs.Ytdbannnbbngckaa.D
