/- The walk of LruRow. -/
import Derived.Test.YtjnipcalncpimaaLruH
namespace Go.Proofs.Ytjnipcalncpimaa
open Go.RowKit

/-- Which numbers below 256 were seen. -/
def seenRow (l : List Nat) : Array Value := ((List.range 256).map fun j => Value.bool (decide (j ∈ l))).toArray
theorem seen_zero (w : World) : (zeroValue 29).run Try.prog w = .ok (.agg (seenRow [])) w := by kernel_rfl
theorem seen_get (l : List Nat) (j : Nat) (h : j < 256) : (seenRow l)[j]? = some (.bool (decide (j ∈ l))) := by simp [seenRow, h]
theorem seen_set (l : List Nat) (j : Nat) (h : j < 256) : (seenRow l).setIfInBounds j (.bool true) = seenRow (j :: l) := by
  apply Array.ext
  · simp [seenRow]
  · intro i h1 h2
    simp only [seenRow, List.size_toArray, List.length_map, List.length_range] at h2
    rw [Array.getElem_setIfInBounds (by simpa [seenRow] using h2)]
    simp [seenRow]
    by_cases e : j = i
    · simp [e]
    · simp [e]; intro hh; omega

/-- Those of a row that are not in S. -/
def without (row S : List Nat) : List Nat := row.filter (· ∉ S)
theorem without_nil (row : List Nat) : without row [] = row := by simp [without]
theorem without_drop (row S : List Nat) (x : Nat) : without (dropL row x) S = without row (x :: S) := by
  unfold without dropL
  rw [List.filter_filter]
  congr 1
  funext y
  by_cases h1 : y = x <;> by_cases h2 : y ∈ S <;> simp [h1, h2]
theorem without_mem (row S : List Nat) (x : Nat) (h : x ∈ S) : without row (x :: S) = without row S := by
  unfold without
  congr 1
  funext y
  by_cases h1 : y = x
  · subst h1; simp [h]
  · simp [h1]
theorem without_use (row S : List Nat) (x : Nat) (h : x ∉ S) : without (useL row x) S = without row (x :: S) ++ [x] := by
  unfold useL
  have := without_drop row S x
  unfold dropL at this
  unfold without at this ⊢
  rw [List.filter_append, this]
  simp [h]
theorem without_use_mem (row S : List Nat) (x : Nat) (h : x ∈ S) : without (useL row x) S = without row S := by
  unfold useL
  have h1 := without_drop row S x
  rw [without_mem row S x h] at h1
  unfold dropL at h1
  unfold without at h1 ⊢
  rw [List.filter_append, h1]
  simp [h]

def LruRowRel (k q : Nat) (row : List Nat) (acts : List (Nat × Int)) (w4 : World) (at_ i : Value) (wr : World) : Prop :=
  ∃ (j : Nat) (S : List Nat) (c : Nat), j ≤ acts.length ∧ i = .int .i64 ((j : Int) - 1) ∧ at_ = .int .i64 c ∧ wr.heap[q]? = some (.cells (seenRow S) 29 (0, 0)) ∧
    row = without (rowOf k (acts.take j)) S ++ row.drop c ∧ c = (without (rowOf k (acts.take j)) S).length ∧ Chg [q] w4 wr

set_option maxRecDepth 100000 in
set_option maxHeartbeats 4000000 in
theorem lruRow_walk (n : Int) (a : Option Addr) (cap : Nat) (acts : List (Nat × Int)) (w : World) (_hn : (Lit.int .i64 n).wf = true) (h : IsActs w a acts) :
    Calls Try.prog 3 #[.int .i64 n, .slice a acts.length cap] w fun e w' => e = .returned (.bool true) ∧ Below w.heap.size w w' := by
  obtain ⟨hmax, hacts⟩ := id h
  unfold maxLen at hmax
  have HACTS := Lib.hid hacts
  clear hacts
  by_cases hbig : 1000 < acts.length
  · clear h
    go_enter Try.func3, Try.ntmps3
    go_wp2_with fail
    refine (awake_any _).mono ?_
    rintro e w1 ⟨rfl, hc1⟩
    go_wp2
    go_ret
    exact ⟨rfl, hc1.below (Nat.le_refl _) (by simp)⟩
  · have hz := seen_zero
    have H := Lib.hid h
    clear h
    have hd1 : decide (1000 < acts.length) = false := by simp; omega
    go_enter Try.func3, Try.ntmps3
    go_wp2_with fail
    refine (awake_any _).mono ?_
    rintro e w1 ⟨rfl, hc1⟩
    go_wp2_with fail
    refine (made_any n a cap acts _ (H.out.chg hc1)).mono ?_
    rintro e w2 ⟨rfl, h2, hc2⟩
    obtain ⟨b, hb⟩ : ∃ b, b = w1.heap.size := ⟨_, rfl⟩
    rw [← hb] at h2 ⊢
    clear hb
    have hkb := slotsOf_pos n
    obtain ⟨k, hk⟩ : ∃ k, k = slotsOf n := ⟨_, rfl⟩
    rw [← hk] at h2 hkb ⊢
    have hC2 : Chg [] w w2 := hc1.trans hc2
    have hrl := h2.len
    obtain ⟨row, hrow⟩ : ∃ row, row = rowOf k acts := ⟨_, rfl⟩
    rw [← hrow] at h2 hrl
    have HROW := Lib.hid hrow
    clear hk hrow hc1 hc2
    go_wp2_with fail
    refine (row_any b k _ _ h2).mono ?_
    rintro e w3 ⟨v3, rfl, hown3, hc3⟩
    have hC3 : Chg [] w w3 := hC2.trans hc3
    obtain ⟨a3, c3, rfl⟩ := owns_len hown3
    have R3 := row_of_own hown3
    clear hown3 hc3 hC2 h2
    go_wp2_with fail
    obtain ⟨q, hqeq⟩ : ∃ q, q = w3.heap.size := ⟨_, rfl⟩
    have hq0 := heap_new w3 (.cells (seenRow []) 29)
    have hwq : w.heap.size ≤ q := by have := hC3.size; omega
    have hR4 : ∀ r c, (Value.slice a3 row.length c3) = .slice (some ⟨r, 0, none⟩) row.length c → (∀ i (h : i < row.length), w3.cell? ⟨r, i, none⟩ = some (.int .i64 (row[i] : Nat))) → 0 < row.length → r ≠ q := by
      intro r c _ hx h0
      have := World.block_lt_of_cell? _ _ (hx 0 h0)
      simp only at this; omega
    rw [← hqeq] at hq0 ⊢
    have HR4 := Lib.hid hR4
    have HR3 := Lib.hid R3
    clear hqeq hR4 R3 hz
    refine wp_abs ?_
    intro w4 hw4
    rw [← hw4] at hq0
    have hC4 : Chg [] w w4 := by rw [hw4]; exact hC3.alloc _
    have hc34 : Chg [] w3 w4 := by rw [hw4]; exact (Chg.refl _ _).alloc _
    clear hw4
    go_loopw [8, 10] (LruRowRel k q row acts w4) (fun _ i _ => ((intOf i) + 1).toNat)
    case atStart =>
      refine ⟨acts.length, [], row.length, Nat.le_refl _, by go_num, rfl, hq0, ?_, ?_, Chg.refl _ _⟩
      · rw [List.take_of_length_le (Nat.le_refl _), without_nil, ← HROW.out]; simp
      · rw [List.take_of_length_le (Nat.le_refl _), without_nil, ← HROW.out]
    case round =>
      clear hq0
      obtain ⟨j, S, c, hj, rfl, rfl, hq, hrw, hc, hck⟩ := hrel
      have hcl : c ≤ row.length := by
        have := congrArg List.length hrw
        rw [List.length_append, ← hc] at this
        omega
      by_cases hj0 : j = 0
      · subst hj0
        have hc0 : c = 0 := by rw [hc]; rfl
        subst hc0
        clear hq hrw hc
        go_wp2
        go_ret
        exact ⟨rfl, (hC4.trans_new hck (by simpa using hwq)).below (Nat.le_refl _) (by simp)⟩
      · obtain ⟨i, rfl⟩ : ∃ i, j = i + 1 := ⟨j - 1, by omega⟩
        have hi : i < acts.length := by omega
        obtain ⟨r, o, ha, hr, hcW, hcN, hWb, hNb⟩ := HACTS.out i hi
        have hsucc := rowOf_take_succ k acts i hi
        obtain ⟨W, hW⟩ : ∃ W, W = acts[i].1 := ⟨_, rfl⟩
        obtain ⟨N, hN⟩ : ∃ N, N = acts[i].2 := ⟨_, rfl⟩
        rw [← hW] at hcW hWb
        rw [← hN] at hcN hNb
        have hdo : doL k (rowOf k (acts.take i)) acts[i] = doL k (rowOf k (acts.take i)) (W, N) := by rw [hW, hN]
        rw [hdo] at hsucc
        rw [hsucc] at hrw hc
        obtain ⟨R, hR⟩ : ∃ R, R = rowOf k (acts.take i) := ⟨_, rfl⟩
        rw [← hR] at hrw hc
        clear hW hN hdo hsucc
        subst ha
        have hC' : Chg [] w wr := hC4.trans_new hck (by simpa using hwq)
        have d1 : wr.cell? ⟨r, o + i * 2, none⟩ = some (.int .u8 W) := hC'.cell hcW (by simp)
        have d2 : wr.cell? ⟨r, o + i * 2 + 1, none⟩ = some (.int .i64 N) := hC'.cell hcN (by simp)
        have HQ := Lib.hid hq
        have HRW := Lib.hid hrw
        have HC := Lib.hid hc
        have HR := Lib.hid hR
        clear hcW hcN hq hrw hc hR hj0
        have hii : (i : Int) < (acts.length : Int) := by omega
        have same : doL k R (W, N) = R → row = without (rowOf k (acts.take i)) S ++ row.drop c ∧ c = (without (rowOf k (acts.take i)) S).length := by
          intro e
          have h1 := HRW.out
          have h2 := HC.out
          rw [e] at h1 h2
          rw [← HR.out]
          exact ⟨h1, h2⟩
        have SAME := Lib.hid same
        clear same
        by_cases hW1 : 1 < W
        · have t1 : decide (1 < W) = true := by simpa using hW1
          have hid : doL k R (W, N) = R := by unfold doL; rw [if_neg (by simp; omega), if_neg (by simp; omega)]
          have HID := Lib.hid hid
          clear hid
          go_wp2
          go_roundw
          case rel => exact ⟨i, S, c, by omega, by go_num, rfl, HQ.out, (SAME.out HID.out).1, (SAME.out HID.out).2, hck⟩
          case measure => simp [intOf] <;> omega
        · have t1 : decide (1 < W) = false := by simpa using hW1
          have t1' : decide ((1 : Int) < (W : Int)) = false := by simp; omega
          by_cases hN0 : N < 0
          · have t2 : decide (N < 0) = true := by simpa using hN0
            have hid : doL k R (W, N) = R := by
              have hs : isSlot k N = false := by simp [isSlot]; omega
              unfold doL useI dropI; simp [hs]
            have HID := Lib.hid hid
            clear hid
            go_wp2
            go_roundw
            case rel => exact ⟨i, S, c, by omega, by go_num, rfl, HQ.out, (SAME.out HID.out).1, (SAME.out HID.out).2, hck⟩
            case measure => simp [intOf] <;> omega
          · have t2 : decide (N < 0) = false := by simpa using hN0
            by_cases hNk : (k : Int) ≤ N
            · have t3 : decide ((k : Int) ≤ N) = true := by simpa using hNk
              have hid : doL k R (W, N) = R := by
                have hs : isSlot k N = false := by simp [isSlot]; omega
                unfold doL useI dropI; simp [hs]
              have HID := Lib.hid hid
              clear hid
              go_wp2
              go_roundw
              case rel => exact ⟨i, S, c, by omega, by go_num, rfl, HQ.out, (SAME.out HID.out).1, (SAME.out HID.out).2, hck⟩
              case measure => simp [intOf] <;> omega
            · obtain ⟨x, rfl⟩ : ∃ x : Nat, N = x := ⟨N.toNat, by omega⟩
              have hxk : x < k := by omega
              have t3 : decide (k ≤ x) = false := by simp; omega
              have t2' : decide ((x : Int) < 0) = false := by simp
              have hs : isSlot k (x : Int) = true := isSlot_iff.2 ⟨by omega, by omega⟩
              have hx256 : (x : Int) < 256 := by omega
              have c2 : wr.cell? ⟨q, x, none⟩ = some (.bool (decide (x ∈ S))) := by rw [cell_of HQ.out, seen_get _ _ (by omega)]
              have f2 : wr.frozen? ⟨q, x, none⟩ = false := free_of HQ.out
              by_cases hxS : x ∈ S
              · rw [decide_eq_true hxS] at c2
                have hid : without (doL k R (W, (x : Int))) S = without R S := by
                  unfold doL useI dropI
                  simp only [hs, if_true, Int.toNat_natCast]
                  split
                  · exact without_use_mem R S x hxS
                  · split
                    · rw [without_drop, without_mem R S x hxS]
                    · rfl
                have g1 : row = without (rowOf k (acts.take i)) S ++ row.drop c := by rw [← HR.out, ← hid]; exact HRW.out
                have g2 : c = (without (rowOf k (acts.take i)) S).length := by rw [← HR.out, ← hid]; exact HC.out
                have G1 := Lib.hid g1
                have G2 := Lib.hid g2
                clear hid g1 g2 hxS
                go_wp2
                go_roundw
                case rel => exact ⟨i, S, c, by omega, by go_num, rfl, HQ.out, G1.out, G2.out, hck⟩
                case measure => simp [intOf] <;> omega
              · rw [decide_eq_false hxS] at c2
                by_cases hW2 : W = 1
                · subst hW2
                  have hid : without (doL k R (1, (x : Int))) S = without R (x :: S) := by
                    unfold doL dropI
                    simp only [hs, if_true, Int.toNat_natCast]
                    simp [without_drop]
                  have g1 : row = without (rowOf k (acts.take i)) (x :: S) ++ row.drop c := by rw [← HR.out, ← hid]; exact HRW.out
                  have g2 : c = (without (rowOf k (acts.take i)) (x :: S)).length := by rw [← HR.out, ← hid]; exact HC.out
                  have G1 := Lib.hid g1
                  have G2 := Lib.hid g2
                  have hrq : r ≠ q := by omega
                  have d1' := (Chg.set1 wr q x (.bool true)).cell d1 (by simpa using hrq)
                  clear hid g1 g2 hxS
                  go_wp2
                  go_roundw
                  case rel => exact ⟨i, x :: S, c, by omega, by go_num, rfl, by rw [heap_set HQ.out, seen_set _ _ (by omega)], G1.out, G2.out, hck.trans (Chg.set1 _ _ _ _)⟩
                  case measure => simp [intOf] <;> omega
                · have hW0 : W = 0 := by omega
                  subst hW0
                  have hid : without (doL k R (0, (x : Int))) S = without R (x :: S) ++ [x] := by
                    unfold doL useI
                    simp only [hs, if_true, Int.toNat_natCast]
                    exact without_use R S x hxS
                  have h1 := HRW.out
                  have h2 := HC.out
                  rw [hid] at h1 h2
                  rw [List.length_append] at h2
                  simp only [List.length_cons, List.length_nil] at h2
                  obtain ⟨c', rfl⟩ : ∃ c', c = c' + 1 := ⟨c - 1, by omega⟩
                  have hcl' : c' < row.length := by omega
                  have hgc : row[c'] = x := by
                    have h3 : row[c']? = some x := by
                      rw [h1, List.append_assoc, List.getElem?_append_right (by omega), show c' - (without R (x :: S)).length = 0 by omega]
                      rfl
                    rw [List.getElem?_eq_getElem hcl'] at h3
                    exact Option.some.inj h3
                  have g1 : row = without (rowOf k (acts.take i)) (x :: S) ++ row.drop c' := by
                    rw [← HR.out, List.drop_eq_getElem_cons hcl', hgc]
                    rw [List.append_assoc] at h1
                    exact h1
                  have g2 : c' = (without (rowOf k (acts.take i)) (x :: S)).length := by rw [← HR.out]; omega
                  have hrq : r ≠ q := by omega
                  have d1' := (Chg.set1 wr q x (.bool true)).cell d1 (by simpa using hrq)
                  obtain ⟨r3, c3', hv3, hx3⟩ : ∃ r c, (Value.slice a3 row.length c3) = .slice (some ⟨r, 0, none⟩) row.length c ∧ ∀ i (h : i < row.length), w3.cell? ⟨r, i, none⟩ = some (.int .i64 (row[i] : Nat)) := by
                    rcases HR3.out with ⟨he, _⟩ | hh
                    · rw [he] at hcl'; simp at hcl'
                    · exact hh
                  have hr3q := HR4.out r3 c3' hv3 hx3 (by omega)
                  have d3 : wr.cell? ⟨r3, c', none⟩ = some (.int .i64 (x : Nat)) := by
                    have := hck.cell (hc34.cell (hx3 c' hcl') (by simp)) (by simpa using hr3q)
                    rwa [hgc] at this
                  have d3' := (Chg.set1 wr q x (.bool true)).cell d3 (by simpa using hr3q)
                  injection hv3 with hv31 hv32 hv33
                  subst hv31
                  have G1 := Lib.hid g1
                  have G2 := Lib.hid g2
                  have t6 : decide ((c' : Int) < 0) = false := by simp
                  have t7 : (c' : Int) < (row.length : Int) := by omega
                  clear hid g1 g2 hxS h1 h2 hgc hx3 hv32 hv33
                  go_wp2
                  go_roundw
                  case rel => exact ⟨i, x :: S, c', by omega, by go_num, by go_num, by rw [heap_set HQ.out, seen_set _ _ (by omega)], G1.out, G2.out, hck.trans (Chg.set1 _ _ _ _)⟩
                  case measure => simp [intOf] <;> omega

end Go.Proofs.Ytjnipcalncpimaa
