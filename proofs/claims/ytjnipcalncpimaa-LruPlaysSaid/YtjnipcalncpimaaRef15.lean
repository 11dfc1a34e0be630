/- The walks of the document's list: New, Drop, Use, Oldest, Newest, Has, Copy. -/
import Derived.Test.YtjnipcalncpimaaLruG
import Derived.Deep.RegionLaw
namespace Go.Proofs.Ytjnipcalncpimaa
open Go.RowKit

theorem owns_keep {w w' : World} {base : Nat} {t : TypeId} {sz : Nat} {v : Value} {n : Nat} {xs : List Value} {S : List Nat} (h : w.ownsRow base t sz v n xs) (hc : Chg S w w') (hS : ∀ k ∈ S, k < base) : w'.ownsRow base t sz v n xs := by
  obtain ⟨h1, h2⟩ := h
  refine ⟨h1, ?_⟩
  rcases h2 with h2 | ⟨g, cap, cur, hv, hg, hh, r⟩
  · exact .inl h2
  · exact .inr ⟨g, cap, cur, hv, hg, hc.keep hh fun hk => by have := hS g hk; omega, r⟩
theorem owns_base {w : World} {base base' : Nat} {t : TypeId} {sz : Nat} {v : Value} {n : Nat} {xs : List Value} (h : w.ownsRow base t sz v n xs) (hb : base' ≤ base) : w.ownsRow base' t sz v n xs := by
  obtain ⟨h1, h2⟩ := h
  refine ⟨h1, ?_⟩
  rcases h2 with h2 | ⟨g, cap, cur, hv, hg, hh, r⟩
  · exact .inl h2
  · exact .inr ⟨g, cap, cur, hv, by omega, hh, r⟩
theorem owns_types {w w' : World} {base : Nat} {v : Value} {n : Nat} {xs : List Value} {S : List Nat} (h : w.ownsRow base 3 1 v n xs) (hc : Chg S w w') (hS : ∀ k ∈ S, ∃ c f t, w.heap[k]? = some (.cells c t f) ∧ t ≠ 3) : w'.ownsRow base 3 1 v n xs := by
  obtain ⟨h1, h2⟩ := h
  refine ⟨h1, ?_⟩
  rcases h2 with h2 | ⟨g, cap, cur, hv, hg, hh, r⟩
  · exact .inl h2
  · exact .inr ⟨g, cap, cur, hv, hg, hc.keep hh fun hk => by obtain ⟨c, f, t, ht, hne⟩ := hS g hk; rw [hh] at ht; cases ht; exact hne rfl, r⟩

/-- The block q is the document's list of n places, with a row; what the row lies in was made from base on. -/
def RefL (base : Nat) (w : World) (q n : Nat) (row : List Nat) : Prop := row.length ≤ 256 ∧ ∃ v, w.heap[q]? = some (.cells #[.int .i64 n, v] 58 (0, 0)) ∧ OwnI base w v row

theorem RefL.lt {base : Nat} {w : World} {q n : Nat} {row : List Nat} (h : RefL base w q n row) : q < w.heap.size := by
  obtain ⟨_, v, h1, _⟩ := h; exact lt_of_block h1
theorem RefL.chg {base : Nat} {S : List Nat} {w w' : World} {q n : Nat} {row : List Nat} (h : RefL base w q n row) (hc : Chg S w w') (hq : q ∉ S) (hS : ∀ k ∈ S, ∃ c f t, w.heap[k]? = some (.cells c t f) ∧ t ≠ 3) : RefL base w' q n row := by
  obtain ⟨h0, v, h1, h2⟩ := h
  exact ⟨h0, v, hc.keep h1 hq, owns_types h2 hc hS⟩
theorem LruAt.own {w : World} {b n : Nat} {row : List Nat} (h : LruAt w b n row) : ∃ c f t, w.heap[b]? = some (.cells c t f) ∧ t ≠ 3 := by
  obtain ⟨_, _, nx, la, hr, _⟩ := h
  exact ⟨_, _, _, hr.2.2, by decide⟩
theorem RefL.own {base : Nat} {w : World} {q n : Nat} {row : List Nat} (h : RefL base w q n row) : ∃ c f t, w.heap[q]? = some (.cells c t f) ∧ t ≠ 3 := by
  obtain ⟨_, v, h1, _⟩ := h
  exact ⟨_, _, _, h1, by decide⟩

theorem grown_keep {w0 w1 : World} {row : Option Nat} {k : Nat} {o : Obj} (hg : w0.grownBy w1 row) (h : w0.heap[k]? = some o) (hk : row ≠ some k) : w1.heap[k]? = some o :=
  (hg.block k (lt_of_block h) (fun e => hk e.symm)).trans h
theorem owns_not {w : World} {base : Nat} {t : TypeId} {sz : Nat} {v : Value} {n : Nat} {xs : List Value} (h : w.ownsRow base t sz v n xs) {k : Nat} (hk : k < base) : v.ownBlock ≠ some k := by
  intro e
  rcases owns_block h k e with hh | hh
  · cases hh
  · omega

def dropZ (l : List Nat) (x : Int) : List Nat := l.filter fun (y : Nat) => decide ((y : Int) ≠ x)
theorem dropZ_snoc_eq (l : List Nat) (y : Nat) (x : Int) (h : (y : Int) = x) : dropZ (l ++ [y]) x = dropZ l x := by simp [dropZ, List.filter_append, h]
theorem dropZ_snoc_ne (l : List Nat) (y : Nat) (x : Int) (h : (y : Int) ≠ x) : dropZ (l ++ [y]) x = dropZ l x ++ [y] := by simp [dropZ, List.filter_append, h]
theorem dropZ_len (l : List Nat) (x : Int) : (dropZ l x).length ≤ l.length := List.length_filter_le _ _

theorem rnew_out (n : Int) (w : World) (hn : n < 0 ∨ 256 < n) :
    Calls Try.prog 21 #[.int .i64 n] w fun e w' => e = .returned (.tuple #[.pointer none, .int .i64 1]) ∧ w = w' := by
  rcases hn with hn | hn
  · go_enter Try.func21, Try.ntmps21
    go_wp2
    go_ret2
    exact ⟨rfl, rfl⟩
  · have h1 : ¬ n < 0 := by omega
    go_enter Try.func21, Try.ntmps21
    go_wp2
    go_ret2
    exact ⟨rfl, rfl⟩
theorem rnew_in (base n : Nat) (w : World) (hn : n ≤ 256) :
    Calls Try.prog 21 #[.int .i64 n] w fun e w' => e = .returned (.tuple #[.pointer (some ⟨w.heap.size, 0, none⟩), .int .i64 0]) ∧ RefL base w' w.heap.size n [] ∧ Chg [] w w' := by
  have hd : decide ((n : Int) < 0) = false := by simp
  go_enter Try.func21, Try.ntmps21
  go_wp2
  go_ret2
  exact ⟨rfl, ⟨Nat.zero_le _, _, heap_new _ _, ⟨rfl, .inl ⟨rfl, rfl⟩⟩⟩, (Chg.refl _ _).alloc _⟩

def RDropR (x : Int) (row : List Nat) (w : World) (v i : Value) (wr : World) : Prop :=
  ∃ j : Nat, j ≤ row.length ∧ i = .int .i64 j ∧ OwnI w.heap.size wr v (dropZ (row.take j) x) ∧ Chg [] w wr

set_option maxHeartbeats 1000000 in
theorem rdrop_any (base q n : Nat) (x : Int) (r : Bool) (row : List Nat) (w : World) (h : RefL base w q n row) (hbase : base ≤ w.heap.size) (hr : r = decide ((dropZ row x).length < row.length)) :
    Calls Try.prog 23 #[.pointer (some ⟨q, 0, none⟩), .int .i64 x] w fun e w' => e = .returned (.bool r) ∧ RefL base w' q n (dropZ row x) ∧ (∃ v, w'.heap[q]? = some (.cells #[.int .i64 n, v] 58 (0, 0)) ∧ OwnI w.heap.size w' v (dropZ row x)) ∧ Chg [q] w w' := by
  have hq := h.lt
  obtain ⟨hrl, v, h1, hown0⟩ := h
  obtain ⟨a0, c0, rfl⟩ := owns_len hown0
  have R0 := row_of_own hown0
  have HR0 := Lib.hid R0
  obtain ⟨i0, hi0, hz0, hz1, hz2⟩ := info_parts Try.elemInt
  have k1 : w.cell? ⟨q, 0 + 1, none⟩ = some (.slice a0 row.length c0) := cell_of h1
  have H1 := Lib.hid h1
  have HR := Lib.hid hr
  clear R0 hown0 h1 hr
  go_enter Try.func23, Try.ntmps23
  go_wp2_with fail
  go_loopw [5, 6] (RDropR x row w) (fun _ i _ => row.length - (intOf i).toNat)
  case atStart => exact ⟨0, Nat.zero_le _, rfl, ⟨rfl, .inl ⟨rfl, rfl⟩⟩, Chg.refl _ _⟩
  case round =>
    obtain ⟨j, hj, rfl, hown, hck⟩ := hrel
    have k2 := hck.cell k1 (by simp)
    obtain ⟨av, cv, hv⟩ := owns_len hown
    rw [hv] at hown ⊢
    clear hv
    by_cases hlt : j < row.length
    · obtain ⟨r3, c3', hv3, hx3⟩ : ∃ r c, (Value.slice a0 row.length c0) = .slice (some ⟨r, 0, none⟩) row.length c ∧ ∀ i (h : i < row.length), w.cell? ⟨r, i, none⟩ = some (.int .i64 (row[i] : Nat)) := by
        rcases HR0.out with ⟨he, _⟩ | hh
        · rw [he] at hlt; simp at hlt
        · exact hh
      injection hv3 with hv31 hv32 hv33
      subst hv31
      obtain ⟨y, hy⟩ : ∃ y, y = row[j] := ⟨_, rfl⟩
      have d0 := hx3 j hlt
      rw [← hy] at d0
      have d1 := hck.cell d0 (by simp)
      have htk : row.take (j + 1) = row.take j ++ [y] := by rw [List.take_succ_eq_append_getElem hlt, ← hy]
      have HTK := Lib.hid htk
      have hdl : (dropZ (row.take j) x).length ≤ 256 := Nat.le_trans (dropZ_len _ _) (by simp; omega)
      have HOWN := Lib.hid hown
      clear hx3 hv32 hv33 hy d0 htk hown
      by_cases hyx : (y : Int) = x
      · have t1 : ((y : Int) != x) = false := by simp [hyx]
        have HYX := Lib.hid hyx
        clear hyx
        go_wp2
        go_roundw
        case rel => exact ⟨j + 1, by omega, by go_num, by rw [HTK.out, dropZ_snoc_eq _ _ _ HYX.out]; exact HOWN.out, hck⟩
        case measure => simp [intOf] <;> omega
      · have t1 : ((y : Int) != x) = true := by simp [hyx]
        have HYX := Lib.hid hyx
        clear hyx
        go_wp2_with (at_builtin; refine wpList_append_own _ rfl _ _ 27 rfl w.heap.size 3 i0 (.int .i64 0) 1 8 Try.underlying27 hi0 hz0 hz1 hz2 rfl (by decide) _ (dropZ (row.take j) x).length _ rfl (HOWN.out.alloc _) ⟨wr.heap.size, 0, none⟩ 1 1 [.int .i64 (y : Nat)] rfl rfl (cell_one_new _ _ _) (by simp [Value.oneCell']) (by unfold maxLen; omega) (by omega) (by have := hck.size; simp; omega) ?_; intro v1 w4 hown1 hg1 _)
        go_roundw
        case rel =>
          refine ⟨j + 1, by omega, by go_num, ?_, (hck.alloc _).grown hg1 (owns_block HOWN.out)⟩
          rw [HTK.out, dropZ_snoc_ne _ _ _ HYX.out]
          unfold OwnI
          rw [List.map_append, List.length_append]
          exact hown1
        case measure => simp [intOf] <;> omega
    · obtain rfl : j = row.length := by omega
      rw [List.take_of_length_le (Nat.le_refl _)] at hown ⊢
      obtain ⟨out, hout⟩ : ∃ out, out = dropZ row x := ⟨_, rfl⟩
      have hol : out.length ≤ row.length := by rw [hout]; exact dropZ_len _ _
      rw [← hout] at hown ⊢
      have HOUT := Lib.hid hout
      have HR2 : Hid (r = decide (out.length < row.length)) := by show _ = _; rw [HR.out, hout]
      have h2 := hck.keep H1.out (by simp)
      have f2 : wr.frozen? ⟨q, 0 + 1, none⟩ = false := free_of h2
      have H2 := Lib.hid h2
      have HOWN := Lib.hid hown
      clear hout h2 hown HR
      have fin : ∀ w', w' = wr.setCell ⟨q, 1, none⟩ (.slice av out.length cv) → RefL base w' q n out ∧ (∃ v, w'.heap[q]? = some (.cells #[.int .i64 n, v] 58 (0, 0)) ∧ OwnI w.heap.size w' v out) ∧ Chg [q] w w' := by
        rintro w' rfl
        have g1 : (wr.setCell ⟨q, 1, none⟩ (.slice av out.length cv)).heap[q]? = some (.cells #[.int .i64 n, .slice av out.length cv] 58 (0, 0)) := by rw [heap_set H2.out]; rfl
        have g2 : OwnI w.heap.size (wr.setCell ⟨q, 1, none⟩ (.slice av out.length cv)) (.slice av out.length cv) out := owns_keep HOWN.out (Chg.set1 _ _ _ _) (by simpa using hq)
        exact ⟨⟨by omega, _, g1, owns_base g2 hbase⟩, ⟨_, g1, g2⟩, (hck.mono (by simp)).trans (Chg.set1 _ _ _ _)⟩
      have FIN := Lib.hid fin
      clear fin
      by_cases hlo : out.length < row.length
      · have hrt : r = true := by rw [HR2.out]; simpa using hlo
        subst hrt
        clear HR2
        go_wp2
        go_ret
        rw [← HOUT.out]
        exact ⟨rfl, FIN.out _ rfl⟩
      · have hrt : r = false := by rw [HR2.out]; simpa using hlo
        subst hrt
        have t1 : decide (out.length < row.length) = false := by simpa using hlo
        clear HR2
        go_wp2
        go_ret
        rw [← HOUT.out]
        exact ⟨rfl, FIN.out _ rfl⟩

theorem ruse_out (base q n : Nat) (x : Int) (row : List Nat) (w : World) (h : RefL base w q n row) (hx : x < 0 ∨ (n : Int) ≤ x) :
    Calls Try.prog 22 #[.pointer (some ⟨q, 0, none⟩), .int .i64 x] w fun e w' => e = .returned (.int .i64 1) ∧ w = w' := by
  obtain ⟨_, v, h1, _⟩ := h
  have k1 : w.cell? ⟨q, 0, none⟩ = some (.int .i64 n) := cell_of h1
  clear h1
  by_cases h0 : x < 0
  · have t1 : decide (x < 0) = true := by simpa using h0
    clear hx
    go_enter Try.func22, Try.ntmps22
    go_wp2
    go_ret
    exact ⟨rfl, rfl⟩
  · have t1 : decide (x < 0) = false := by simpa using h0
    have t2 : decide ((n : Int) ≤ x) = true := by simp; omega
    clear hx
    go_enter Try.func22, Try.ntmps22
    go_wp2
    go_ret
    exact ⟨rfl, rfl⟩

set_option maxHeartbeats 1000000 in
theorem ruse_in (base q n x : Nat) (row : List Nat) (w : World) (h : RefL base w q n row) (hbase : base ≤ w.heap.size) (hx : x < n) (hl : (dropZ row (x : Int)).length < 256) :
    Calls Try.prog 22 #[.pointer (some ⟨q, 0, none⟩), .int .i64 x] w fun e w' => e = .returned (.int .i64 0) ∧ RefL base w' q n (dropZ row (x : Int) ++ [x]) ∧ Chg [q] w w' := by
  have h0 := h
  have hq := h.lt
  obtain ⟨_, v, h1, _⟩ := h
  have k1 : w.cell? ⟨q, 0, none⟩ = some (.int .i64 n) := cell_of h1
  have t1 : decide ((x : Int) < 0) = false := by simp
  have t2 : decide (n ≤ x) = false := by simp; omega
  obtain ⟨i0, hi0, hz0, hz1, hz2⟩ := info_parts Try.elemInt
  have HL := Lib.hid hl
  clear h1 hl
  go_enter Try.func22, Try.ntmps22
  go_wp2_with fail
  refine (rdrop_any base q n x _ row _ h0 hbase rfl).mono ?_
  rintro e w1 ⟨rfl, _, ⟨v1, h2, hown⟩, hc1⟩
  obtain ⟨av, cv, rfl⟩ := owns_len hown
  have k2 : w1.cell? ⟨q, 0 + 1, none⟩ = some (.slice av (dropZ row (x : Int)).length cv) := cell_of h2
  have HOWN := Lib.hid hown
  have H2 := Lib.hid h2
  have hl := HL.out
  clear hown h2
  obtain ⟨out, hout⟩ : ∃ out, out = dropZ row (x : Int) := ⟨_, rfl⟩
  rw [← hout] at HOWN H2 hl k2 ⊢
  have HOUT := Lib.hid hout
  clear hout HL
  go_wp2_with (at_builtin; go_must (refine wpList_append_own _ rfl _ _ 27 rfl w.heap.size 3 i0 (.int .i64 0) 1 8 Try.underlying27 hi0 hz0 hz1 hz2 rfl (by decide) _ out.length _ rfl (HOWN.out.alloc _) ⟨w1.heap.size, 0, none⟩ 1 1 [.int .i64 (x : Nat)] rfl rfl (cell_one_new _ _ _) (by simp [Value.oneCell']) (by unfold maxLen; omega) (by omega) (by have := hc1.size; simp; omega) ?_); go_must (intro v3 w3 hown3 hg3 _; obtain ⟨a3, c3, rfl⟩ := owns_len hown3; have hc3 : Chg [q] w w3 := (hc1.alloc (.cells #[.int .i64 (x : Nat)] 3)).grown hg3 (fun k hk => by rcases owns_block HOWN.out k hk with hh | hh; cases hh; exact .inr hh); have hq3 := grown_keep hg3 (heap_old (o := .cells #[.int .i64 (x : Nat)] 3) H2.out) (owns_not HOWN.out hq); have f3 : w3.frozen? ⟨q, 0 + 1, none⟩ = false := free_of hq3; have k3 : w3.cell? ⟨q, 0 + 1, none⟩ = some (.slice av out.length cv) := cell_of hq3; have HQ3 := Lib.hid hq3; clear hq3))
  go_ret
  rw [← HOUT.out]
  refine ⟨rfl, ⟨by simp; omega, _, by rw [heap_set HQ3.out]; rfl, ?_⟩, hc3.trans (Chg.set1 _ _ _ _)⟩
  have g := owns_keep hown3 (Chg.set1 w3 q 1 (.slice a3 (out.length + 1) c3)) (by simpa using hq)
  unfold OwnI
  rw [List.map_append, List.length_append]
  exact owns_base g hbase

theorem roldest_any (base q n x : Nat) (r : Bool) (row : List Nat) (w : World) (h : RefL base w q n row) (hx : x = firstOf row) (hr : r = !row.isEmpty) :
    Calls Try.prog 31 #[.pointer (some ⟨q, 0, none⟩)] w fun e w' => e = .returned (.tuple #[.int .i64 x, .bool r]) ∧ w = w' := by
  obtain ⟨hl, v, h1, hown⟩ := h
  obtain ⟨av, cv, rfl⟩ := owns_len hown
  have k1 : w.cell? ⟨q, 0 + 1, none⟩ = some (.slice av row.length cv) := cell_of h1
  have R := row_of_own hown
  cases row with
  | nil =>
    subst hx; subst hr
    simp only [List.length_nil] at k1
    clear h1 hown R
    go_enter Try.func31, Try.ntmps31
    go_wp2
    go_ret2
    exact ⟨rfl, rfl⟩
  | cons y l =>
    have hxy : x = y := hx
    have hrt : r = true := hr
    subst hxy; subst hrt
    rcases R with ⟨he, _⟩ | ⟨g, c, hv, hc⟩
    · cases he
    injection hv with hv1 hv2 hv3
    subst hv1
    have k2 := hc 0 (by simp)
    simp only [List.getElem_cons_zero] at k2
    have t1 : (((x :: l).length : Int) == 0) = false := by simp <;> omega
    have t2 : (0 : Int) < ((x :: l).length : Int) := by simp <;> omega
    obtain ⟨m, hm⟩ : ∃ m, m = (x :: l).length := ⟨_, rfl⟩
    rw [← hm] at t1 t2 k1 hl
    have t3 : 0 < m := by omega
    clear h1 hown hc hv2 hv3 hx hr hm
    go_enter Try.func31, Try.ntmps31
    go_wp2
    go_ret2
    exact ⟨rfl, rfl⟩

theorem rnewest_any (base q n x : Nat) (r : Bool) (row : List Nat) (w : World) (h : RefL base w q n row) (hx : x = lastOf row) (hr : r = !row.isEmpty) :
    Calls Try.prog 32 #[.pointer (some ⟨q, 0, none⟩)] w fun e w' => e = .returned (.tuple #[.int .i64 x, .bool r]) ∧ ∃ m, w' = w.drewN m := by
  obtain ⟨hl, v, h1, hown⟩ := h
  obtain ⟨av, cv, rfl⟩ := owns_len hown
  have k1 : w.cell? ⟨q, 0 + 1, none⟩ = some (.slice av row.length cv) := cell_of h1
  have R := row_of_own hown
  by_cases hnil : row = []
  · subst hnil
    subst hx; subst hr
    simp only [List.length_nil] at k1
    clear h1 hown R
    go_enter Try.func32, Try.ntmps32
    go_wp2
    go_ret2
    exact ⟨rfl, 0, rfl⟩
  · have hrt : r = true := by rw [hr]; cases row with | nil => exact absurd rfl hnil | cons y l => rfl
    have hpos : 0 < row.length := List.length_pos_iff.2 hnil
    subst hrt
    rcases R with ⟨he, _⟩ | ⟨g, c, hv, hc⟩
    · exact absurd he hnil
    injection hv with hv1 hv2 hv3
    subst hv1
    have k2 := hc (row.length - 1) (by omega)
    have hl2 : row[row.length - 1]'(by omega) = x := by
      rw [hx]; unfold lastOf
      rw [List.getLastD_eq_getLast?, List.getLast?_eq_getElem?, List.getElem?_eq_getElem (by omega)]
      rfl
    rw [hl2] at k2
    obtain ⟨m, hm⟩ : ∃ m, row.length = m + 1 := ⟨row.length - 1, by omega⟩
    rw [hm] at k1 k2 hl
    rw [show m + 1 - 1 = m by omega] at k2
    have t1 : (((m + 1 : Nat) : Int) == 0) = false := by simp; omega
    have t4 : IntKind.i64.wrap (((m + 1 : Nat) : Int) - 1) = (m : Int) := by rw [IntKind.wrap_i64]; omega
    have t5 : ((m + 1 : Nat) : Int) - 1 = (m : Int) := by omega
    have t6 : (m : Int) < ((m + 1 : Nat) : Int) := by omega
    clear h1 hown hc hv2 hv3 hx hr hm hl2 hnil hpos
    go_enter Try.func32, Try.ntmps32
    go_wp2_with fail
    go_quiet (fail)
    go_wp2
    go_ret2
    exact ⟨rfl, _, rfl⟩

theorem rhas_any (base q n : Nat) (x : Int) (r : Bool) (row : List Nat) (w : World) (h : RefL base w q n row) (hr : r = row.any fun (y : Nat) => decide ((y : Int) = x)) :
    Calls Try.prog 25 #[.pointer (some ⟨q, 0, none⟩), .int .i64 x] w fun e w' => e = .returned (.bool r) ∧ w = w' := by
  obtain ⟨hl, v, h1, hown⟩ := h
  obtain ⟨av, cv, rfl⟩ := owns_len hown
  have k1 : w.cell? ⟨q, 0 + 1, none⟩ = some (.slice av row.length cv) := cell_of h1
  have R := row_of_own hown
  have HR := Lib.hid hr
  have HROW := Lib.hid R
  clear h1 hown R hr
  go_enter Try.func25, Try.ntmps25
  go_wp2_with fail
  go_loop [5] (fun i => ∃ j : Nat, j ≤ row.length ∧ i = .int .i64 j ∧ (row.take j).any (fun (y : Nat) => decide ((y : Int) = x)) = false) (fun i => row.length - (intOf i).toNat)
  case atStart => exact ⟨0, Nat.zero_le _, rfl, by simp⟩
  case round =>
    obtain ⟨j, hj, rfl, hno⟩ := hrel
    have HNO := Lib.hid hno
    clear hno
    by_cases hlt : j < row.length
    · obtain ⟨r3, c3', hv3, hx3⟩ : ∃ r c, (Value.slice av row.length cv) = .slice (some ⟨r, 0, none⟩) row.length c ∧ ∀ i (h : i < row.length), w.cell? ⟨r, i, none⟩ = some (.int .i64 (row[i] : Nat)) := by
        rcases HROW.out with ⟨he, _⟩ | hh
        · rw [he] at hlt; simp at hlt
        · exact hh
      injection hv3 with hv31 hv32 hv33
      subst hv31
      obtain ⟨y, hy⟩ : ∃ y, y = row[j] := ⟨_, rfl⟩
      have d0 := hx3 j hlt
      rw [← hy] at d0
      have htk : row.take (j + 1) = row.take j ++ [y] := by rw [List.take_succ_eq_append_getElem hlt, ← hy]
      have HTK := Lib.hid htk
      have HY := Lib.hid hy
      clear hx3 hv32 hv33 hy htk
      by_cases hyx : (y : Int) = x
      · have t1 : ((y : Int) == x) = true := by simp [hyx]
        have hrt : r = true := by
          rw [HR.out, List.any_eq_true]
          exact ⟨y, by rw [HY.out]; exact List.getElem_mem _, by simpa using hyx⟩
        clear hyx
        go_wp2
        go_ret
        exact ⟨rfl, rfl⟩
      · have t1 : ((y : Int) == x) = false := by simp [hyx]
        have HYX := Lib.hid hyx
        clear hyx
        go_wp2
        go_round
        case rel => exact ⟨j + 1, by omega, by go_num, by rw [HTK.out, List.any_append, HNO.out]; simp [HYX.out]⟩
        case measure => simp [intOf] <;> omega
    · obtain rfl : j = row.length := by omega
      have hrt : r = false := by rw [HR.out]; have := HNO.out; rwa [List.take_of_length_le (Nat.le_refl _)] at this
      go_wp2
      go_ret
      exact ⟨rfl, rfl⟩

end Go.Proofs.Ytjnipcalncpimaa
