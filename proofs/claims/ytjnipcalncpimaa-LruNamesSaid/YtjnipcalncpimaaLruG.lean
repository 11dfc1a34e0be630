/- Use, Drop and Has at any number; what acts make of a row; the walks of made and awake. -/
import Derived.Test.YtjnipcalncpimaaLruF
import Derived.Test.YtjnipcalncpimaaActs15
import Derived.Test.YtjnipcalncpimaaInts15
namespace Go.Proofs.Ytjnipcalncpimaa
open Go.RowKit

/-- Is there a slot of a number? -/
def isSlot (n : Nat) (x : Int) : Bool := decide (0 ≤ x) && decide (x < n)
theorem isSlot_iff {n : Nat} {x : Int} : isSlot n x = true ↔ 0 ≤ x ∧ x < n := by simp [isSlot]
def useI (n : Nat) (row : List Nat) (x : Int) : List Nat := if isSlot n x then useL row x.toNat else row
def dropI (n : Nat) (row : List Nat) (x : Int) : List Nat := if isSlot n x then dropL row x.toNat else row
def hasI (n : Nat) (row : List Nat) (x : Int) : Bool := isSlot n x && decide (x.toNat ∈ row)
def errI (n : Nat) (x : Int) : Nat := if isSlot n x then 0 else 1

theorem use_at (b n : Nat) (x : Int) (row : List Nat) (w : World) (h : LruAt w b n row) :
    Calls Try.prog 16 #[.pointer (some ⟨b, 0, none⟩), .int .i64 x] w fun e w' => e = .returned (.int .i64 (errI n x : Nat)) ∧ LruAt w' b n (useI n row x) ∧ Chg [b] w w' := by
  by_cases hs : isSlot n x = true
  · have hx := isSlot_iff.1 hs
    obtain ⟨y, rfl⟩ : ∃ y : Nat, x = y := ⟨x.toNat, by omega⟩
    refine (use_in b n y row w h (by omega)).mono ?_
    rintro e w' ⟨rfl, h1, h2⟩
    refine ⟨?_, ?_, h2⟩
    · simp [errI, hs]
    · unfold useI; rw [if_pos hs]; exact h1
  · have hx : x < 0 ∨ (n : Int) ≤ x := by
      rcases Int.lt_or_le x 0 with hh | hh
      · exact .inl hh
      · rcases Int.lt_or_le x n with h3 | h3
        · exact absurd (isSlot_iff.2 ⟨hh, h3⟩) hs
        · exact .inr h3
    refine (use_out b n x row w h hx).mono ?_
    rintro e w' ⟨rfl, rfl⟩
    refine ⟨?_, ?_, Chg.refl _ _⟩
    · simp [errI, hs]
    · unfold useI; rw [if_neg hs]; exact h

theorem drop_at (b n : Nat) (x : Int) (row : List Nat) (w : World) (h : LruAt w b n row) :
    Calls Try.prog 14 #[.pointer (some ⟨b, 0, none⟩), .int .i64 x] w fun e w' => e = .returned (.bool (hasI n row x)) ∧ LruAt w' b n (dropI n row x) ∧ Chg [b] w w' := by
  by_cases hs : isSlot n x = true
  · have hx := isSlot_iff.1 hs
    obtain ⟨y, rfl⟩ : ∃ y : Nat, x = y := ⟨x.toNat, by omega⟩
    refine (drop_in b n y _ row w h (by omega) rfl).mono ?_
    rintro e w' ⟨rfl, h1, h2⟩
    refine ⟨?_, ?_, h2⟩
    · simp [hasI, hs]
    · unfold dropI; rw [if_pos hs]; exact h1
  · have hx : x < 0 ∨ (n : Int) ≤ x := by
      rcases Int.lt_or_le x 0 with hh | hh
      · exact .inl hh
      · rcases Int.lt_or_le x n with h3 | h3
        · exact absurd (isSlot_iff.2 ⟨hh, h3⟩) hs
        · exact .inr h3
    refine (drop_out b n x row w h hx).mono ?_
    rintro e w' ⟨rfl, rfl⟩
    refine ⟨?_, ?_, Chg.refl _ _⟩
    · simp [hasI, hs]
    · unfold dropI; rw [if_neg hs]; exact h

theorem has_at (b n : Nat) (x : Int) (row : List Nat) (w : World) (h : LruAt w b n row) :
    Calls Try.prog 12 #[.pointer (some ⟨b, 0, none⟩), .int .i64 x] w fun e w' => e = .returned (.bool (hasI n row x)) ∧ w = w' := by
  by_cases hs : isSlot n x = true
  · have hx := isSlot_iff.1 hs
    obtain ⟨y, rfl⟩ : ∃ y : Nat, x = y := ⟨x.toNat, by omega⟩
    refine (has_in b n y _ row w h (by omega) rfl).mono ?_
    rintro e w' ⟨rfl, rfl⟩
    exact ⟨by simp [hasI, hs], rfl⟩
  · have hx : x < 0 ∨ (n : Int) ≤ x := by
      rcases Int.lt_or_le x 0 with hh | hh
      · exact .inl hh
      · rcases Int.lt_or_le x n with h3 | h3
        · exact absurd (isSlot_iff.2 ⟨hh, h3⟩) hs
        · exact .inr h3
    refine (has_out b n x row w h hx).mono ?_
    rintro e w' ⟨rfl, rfl⟩
    exact ⟨by simp [hasI, hs], rfl⟩

/-- What an act makes of a row (a copy leaves it). -/
def doL (n : Nat) (row : List Nat) (a : Nat × Int) : List Nat := if a.1 = 0 then useI n row a.2 else if a.1 = 1 then dropI n row a.2 else row
def rowOf (n : Nat) (acts : List (Nat × Int)) : List Nat := acts.foldl (doL n) []

theorem row_of_own {base : Nat} {w : World} {v : Value} {l : List Nat} (h : OwnI base w v l) : Row .i64 w v l := by
  obtain ⟨_, h⟩ := h
  rcases h with ⟨hv, hn⟩ | ⟨g, cap, cur, hv, _, hh, _, _, _, ht⟩
  · have : l = [] := List.length_eq_zero_iff.1 hn
    subst this; subst hv; exact Row.nil
  · subst hv
    refine .inr ⟨g, cap, rfl, fun i hi => ?_⟩
    rw [cell_of hh]
    have e1 : (cur.toList.take (l.length * 1))[i]? = some (.int .i64 (l[i] : Nat)) := by
      rw [ht]; simp [hi]
    rw [List.getElem?_take, if_pos (by omega)] at e1
    simpa using e1
theorem Row.chg {S : List Nat} {k : IntKind} {w w' : World} {v : Value} {l : List Nat} (h : Row k w v l) (hc : Chg S w w') (hS : ∀ a n c, v = .slice (some a) n c → a.block ∉ S) : Row k w' v l := by
  rcases h with h | ⟨r, c, rfl, hx⟩
  · exact .inl h
  · exact .inr ⟨r, c, rfl, fun i hi => hc.cell (hx i hi) (hS ⟨r, 0, none⟩ _ _ rfl)⟩

theorem ex_awake1 : useI 4 (useI 4 (useI 4 [] 2) 0) 2 = [0, 2] := by decide
theorem ex_awake2 : dropI 4 (dropI 4 [0, 2] 0) 0 = [2] := by decide

set_option maxRecDepth 100000 in
set_option maxHeartbeats 2000000 in
theorem awake_any (w : World) : Calls Try.prog 9 #[] w fun e w' => e = .returned (.bool true) ∧ Chg [] w w' := by
  go_enter Try.func9, Try.ntmps9
  go_wp2_with fail
  refine (new_in 4 _ (by decide)).mono ?_
  rintro e w1 ⟨rfl, h1, hc1⟩
  obtain ⟨b, hb⟩ : ∃ b, b = w.heap.size := ⟨_, rfl⟩
  rw [← hb] at h1 ⊢
  have hwb : w.heap.size ≤ b := by omega
  clear hb
  go_wp2_with fail
  refine (use_in b 4 2 _ _ h1 (by decide)).mono ?_
  rintro e w2 ⟨rfl, h2, hc2⟩
  have hC2 : Chg [] w w2 := hc1.trans_new hc2 (by simp; omega)
  clear h1 hc1 hc2
  go_wp2_with fail
  refine (use_in b 4 0 _ _ h2 (by decide)).mono ?_
  rintro e w3 ⟨rfl, h3, hc3⟩
  have hC3 : Chg [] w w3 := hC2.trans_new hc3 (by simp; omega)
  clear h2 hC2 hc3
  go_wp2_with fail
  refine (use_in b 4 2 _ _ h3 (by decide)).mono ?_
  rintro e w4 ⟨rfl, h4, hc4⟩
  have hC4 : Chg [] w w4 := hC3.trans_new hc4 (by simp; omega)
  rw [show useL (useL (useL [] 2) 0) 2 = [0, 2] by decide] at h4
  clear h3 hC3 hc4
  go_wp2_with fail
  refine (row_any b 4 _ _ h4).mono ?_
  rintro e w5 ⟨v5, rfl, hown5, hc5⟩
  have h5 := h4.chg hc5 (by simp)
  have hC5 : Chg [] w w5 := hC4.trans hc5
  obtain ⟨a5, c5, rfl⟩ := owns_len hown5
  have R5 := row_of_own hown5
  clear hown5 hc5 hC4 h4
  go_wp2_with fail
  refine (ints_any _ _ [0, 2] [0, 2] _ (R5.chg (S := []) ((Chg.refl _ _).alloc _) (by simp)) (Row.of_heap (heap_new' _ _ _ rfl)) (by decide) (by decide)).mono ?_
  rintro e w6 ⟨rfl, n6, hw6⟩
  have h6 : LruAt w6 b 4 [0, 2] := by rw [hw6]; exact h5.chg (S := []) (((Chg.refl _ _).alloc _).drewN _) (by simp)
  have hC6 : Chg [] w w6 := by rw [hw6]; exact (hC5.alloc _).drewN _
  clear hw6 h5 hC5 R5
  go_wp2_with fail
  refine (oldest_any b 4 0 true _ _ h6 rfl rfl).mono ?_
  rintro e w7 ⟨rfl, rfl⟩
  go_wp2_with fail
  refine (drop_in b 4 0 true _ _ h6 (by decide) rfl).mono ?_
  rintro e w7 ⟨rfl, h7, hc7⟩
  have hC7 : Chg [] w w7 := hC6.trans_new hc7 (by simp; omega)
  rw [show dropL [0, 2] 0 = [2] by decide] at h7
  clear h6 hC6 hc7
  go_wp2_with fail
  refine (drop_in b 4 0 false _ _ h7 (by decide) rfl).mono ?_
  rintro e w8 ⟨rfl, h8, hc8⟩
  have hC8 : Chg [] w w8 := hC7.trans_new hc8 (by simp; omega)
  rw [show dropL [2] 0 = [2] by decide] at h8
  clear h7 hC7 hc8
  go_wp2_with fail
  refine (row_any b 4 _ _ h8).mono ?_
  rintro e w9 ⟨v9, rfl, hown9, hc9⟩
  have h9 := h8.chg hc9 (by simp)
  have hC9 : Chg [] w w9 := hC8.trans hc9
  obtain ⟨a9, c9, rfl⟩ := owns_len hown9
  have R9 := row_of_own hown9
  clear hown9 hc9 hC8 h8
  go_wp2_with fail
  refine (ints_any _ _ [2] [2] _ (R9.chg (S := []) ((Chg.refl _ _).alloc _) (by simp)) (Row.of_heap (heap_new' _ _ _ rfl)) (by decide) (by decide)).mono ?_
  rintro e w10 ⟨rfl, n10, hw10⟩
  have h10 : LruAt w10 b 4 [2] := by rw [hw10]; exact h9.chg (S := []) (((Chg.refl _ _).alloc _).drewN _) (by simp)
  have hC10 : Chg [] w w10 := by rw [hw10]; exact (hC9.alloc _).drewN _
  clear hw10 h9 hC9 R9
  go_wp2_with fail
  refine (use_out b 4 4 _ _ h10 (by decide)).mono ?_
  rintro e w11 ⟨rfl, rfl⟩
  go_wp2
  go_ret
  exact ⟨rfl, hC10⟩

end Go.Proofs.Ytjnipcalncpimaa
