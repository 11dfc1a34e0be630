/- The walk of LruDropped. -/
import Derived.Test.YtjnipcalncpimaaLruApartW
namespace Go.Proofs.Ytjnipcalncpimaa
open Go.RowKit

def DropR (x : Nat) (row : List Nat) (w3 : World) (v i : Value) (wr : World) : Prop :=
  ∃ j : Nat, j ≤ row.length ∧ i = .int .i64 j ∧ OwnI w3.heap.size wr v (dropL (row.take j) x) ∧ Chg [] w3 wr

theorem dropL_snoc_eq (l : List Nat) (x : Nat) : dropL (l ++ [x]) x = dropL l x := by simp [dropL, List.filter_append]
theorem dropL_snoc_ne (l : List Nat) (x y : Nat) (h : y ≠ x) : dropL (l ++ [y]) x = dropL l x ++ [y] := by simp [dropL, List.filter_append, h]
theorem dropL_len (l : List Nat) (x : Nat) : (dropL l x).length ≤ l.length := List.length_filter_le _ _
theorem dropL_idem (l : List Nat) (x : Nat) : dropL (dropL l x) x = dropL l x := by simp [dropL, List.filter_filter]
theorem not_mem_dropL (l : List Nat) (x : Nat) : x ∉ dropL l x := by simp [dropL]
theorem dropL_use (l : List Nat) (x : Nat) : dropL (useL l x) x = dropL l x := by
  unfold useL; rw [show l.filter (· ≠ x) = dropL l x from rfl, dropL_snoc_eq, dropL_idem]
theorem mem_useL (l : List Nat) (x : Nat) : x ∈ useL l x := by simp [useL]

set_option maxRecDepth 100000 in
set_option maxHeartbeats 4000000 in
theorem lruDropped_walk (n : Int) (a : Option Addr) (cap : Nat) (acts : List (Nat × Int)) (p : Int) (w : World) (_hn : (Lit.int .i64 n).wf = true) (h : IsActs w a acts) (_hp : (Lit.int .i64 p).wf = true) :
    Calls Try.prog 4 #[.int .i64 n, .slice a acts.length cap, .int .i64 p] w fun e w' => e = .returned (.bool true) ∧ Below w.heap.size w w' := by
  obtain ⟨hmax, _⟩ := id h
  unfold maxLen at hmax
  have H := Lib.hid h
  clear h
  by_cases hbig : 1000 < acts.length
  · go_enter Try.func4, Try.ntmps4
    go_wp2_with fail
    refine (awake_any _).mono ?_
    rintro e w1 ⟨rfl, hc1⟩
    go_wp2
    go_ret
    exact ⟨rfl, hc1.below (Nat.le_refl _) (by simp)⟩
  have hd1 : decide (1000 < acts.length) = false := by simp; omega
  obtain ⟨p1, hp1⟩ : ∃ p1 : Nat, IntKind.u64.wrap p = p1 := ⟨(IntKind.u64.wrap p).toNat, by rw [IntKind.wrap_u64]; omega⟩
  obtain ⟨i0, hi0, hz0, hz1, hz2⟩ := info_parts Try.elemInt
  go_enter Try.func4, Try.ntmps4
  go_wp2_with fail
  refine (awake_any _).mono ?_
  rintro e w1 ⟨rfl, hc1⟩
  go_wp2_with fail
  refine (made_any n a cap acts _ (H.out.chg hc1)).mono ?_
  rintro e w2 ⟨rfl, h2, hc2⟩
  obtain ⟨b, hb⟩ : ∃ b, b = w1.heap.size := ⟨_, rfl⟩
  have hwb : w.heap.size ≤ b := by have := hc1.size; omega
  rw [← hb] at h2 ⊢
  clear hb
  obtain ⟨k, hk⟩ : ∃ k, k = slotsOf n := ⟨_, rfl⟩
  have hkb := slotsOf_pos n
  rw [← hk] at h2 hkb ⊢
  have hC2 : Chg [] w w2 := hc1.trans hc2
  have hrl := h2.len
  obtain ⟨row, hrow⟩ : ∃ row, row = rowOf k acts := ⟨_, rfl⟩
  rw [← hrow] at h2 hrl
  clear hk hrow hc1 hc2
  obtain ⟨x, hx⟩ : ∃ x, x = p1 % k := ⟨_, rfl⟩
  have hxk : x < k := by rw [hx]; exact Nat.mod_lt _ (by omega)
  have hx1 : (p1 : Int) % (k : Int) = (x : Int) := by rw [hx]; rfl
  have hx2 : (p1 : Int).tmod (k : Int) = (x : Int) := by rw [Int.tmod_eq_emod_of_nonneg (by omega)]; exact hx1
  have hk0 : ((k : Int) == 0) = false := by simp; omega
  have hkw : IntKind.u64.wrap (k : Int) = (k : Int) := by rw [IntKind.wrap_u64]; omega
  clear hx
  obtain ⟨was, hwas⟩ : ∃ was, was = decide (x ∈ row) := ⟨_, rfl⟩
  have HWAS := Lib.hid hwas
  clear hwas
  go_wp2_with fail
  refine (has_in b k x was row _ h2 hxk HWAS.out).mono ?_
  rintro e w3 ⟨rfl, rfl⟩
  clear hx1 hx2 hkw
  go_wp2_with fail
  refine (row_any b k _ _ h2).mono ?_
  rintro e w3 ⟨v3, rfl, hown3, hc3⟩
  have hb2 := h2.lt
  have h3 := h2.chg hc3 (by simp)
  have hC3 : Chg [] w w3 := hC2.trans hc3
  obtain ⟨a3, c3, rfl⟩ := owns_len hown3
  have R3 := row_of_own hown3
  have HR3 := Lib.hid R3
  clear hown3 hc3 hC2 h2 R3
  go_wp2_with fail
  go_loopw [11, 12] (DropR x row w3) (fun _ i _ => row.length - (intOf i).toNat)
  case atStart => exact ⟨0, Nat.zero_le _, rfl, ⟨rfl, .inl ⟨rfl, rfl⟩⟩, Chg.refl _ _⟩
  case round =>
    obtain ⟨j, hj, rfl, hown, hck⟩ := hrel
    by_cases hlt : j < row.length
    · obtain ⟨r3, c3', hv3, hx3⟩ : ∃ r c, (Value.slice a3 row.length c3) = .slice (some ⟨r, 0, none⟩) row.length c ∧ ∀ i (h : i < row.length), w3.cell? ⟨r, i, none⟩ = some (.int .i64 (row[i] : Nat)) := by
        rcases HR3.out with ⟨he, _⟩ | hh
        · rw [he] at hlt; simp at hlt
        · exact hh
      injection hv3 with hv31 hv32 hv33
      subst hv31
      obtain ⟨y, hy⟩ : ∃ y, y = row[j] := ⟨_, rfl⟩
      have d0 := hx3 j hlt
      rw [← hy] at d0
      have d1 := hck.cell d0 (by simp)
      have htk : row.take (j + 1) = row.take j ++ [y] := by rw [List.take_succ_eq_append_getElem hlt, ← hy]
      have HTK := Lib.hid htk
      obtain ⟨av, cv, hv⟩ := owns_len hown
      have hdl : (dropL (row.take j) x).length ≤ 256 := Nat.le_trans (dropL_len _ _) (by simp; omega)
      have HOWN := Lib.hid hown
      clear hx3 hv32 hv33 hy d0 htk hown
      rw [hv] at HOWN ⊢
      clear hv
      by_cases hyx : y = x
      · subst hyx
        go_wp2
        go_roundw
        case rel => exact ⟨j + 1, by omega, by go_num, by rw [HTK.out, dropL_snoc_eq]; exact HOWN.out, hck⟩
        case measure => simp [intOf] <;> omega
      · have t1 : ((y : Int) != (x : Int)) = true := by simp; omega
        have HYX := Lib.hid hyx
        clear hyx
        go_wp2_with (at_builtin; refine wpList_append_own _ rfl _ _ 27 rfl w3.heap.size 3 i0 (.int .i64 0) 1 8 Try.underlying27 hi0 hz0 hz1 hz2 rfl (by decide) _ (dropL (row.take j) x).length _ rfl (HOWN.out.alloc _) ⟨wr.heap.size, 0, none⟩ 1 1 [.int .i64 (y : Nat)] rfl rfl (cell_one_new _ _ _) (by simp [Value.oneCell']) (by unfold maxLen; omega) (by omega) (by have := hck.size; simp; omega) ?_; intro v1 w4 hown1 hg1 _)
        go_roundw
        case rel =>
          refine ⟨j + 1, by omega, by go_num, ?_, (hck.alloc _).grown hg1 (owns_block HOWN.out)⟩
          rw [HTK.out, dropL_snoc_ne _ _ _ HYX.out]
          unfold OwnI
          rw [List.map_append, List.length_append]
          exact hown1
        case measure => simp [intOf] <;> omega
    · obtain rfl : j = row.length := by omega
      rw [List.take_of_length_le (Nat.le_refl _)] at hown
      obtain ⟨rest, hrest⟩ : ∃ rest, rest = dropL row x := ⟨_, rfl⟩
      rw [← hrest] at hown
      have HREST := Lib.hid hrest
      have hrestl : rest.length ≤ 256 := by rw [hrest]; exact Nat.le_trans (dropL_len _ _) hrl
      obtain ⟨av, cv, hv⟩ := owns_len hown
      rw [hv] at hown ⊢
      have R4 := rowB_of_own hown
      have HNIL := Lib.hid (owns_nil hown)
      have hb3 : b < w3.heap.size := h3.lt
      have h4 := h3.chg hck (by simp)
      have hC4 : Chg [] w wr := hC3.trans hck
      obtain ⟨w4, hw4⟩ : ∃ w4, w4 = wr := ⟨_, rfl⟩
      rw [← hw4] at R4 h4 hC4 ⊢
      clear hv hown hw4 hck hC3 h3 hrest HR3
      go_wp2_with fail
      refine (copy_any b k _ _ h4).mono ?_
      rintro e w5 ⟨rfl, g5, h5, hc5⟩
      obtain ⟨c, hc⟩ : ∃ c, c = w4.heap.size := ⟨_, rfl⟩
      have hbc : b ≠ c := by have := h4.lt; omega
      have hwc : w.heap.size ≤ c := by have := hC4.size; omega
      have R5 := R4.chg hc5 (by simp)
      rw [← hc] at g5 R5 ⊢
      have hC5 : Chg [] w w5 := hC4.trans hc5
      clear hc hc5 R4 h4 hC4
      go_wp2_with fail
      refine (drop_in c k x was _ _ g5 hxk HWAS.out).mono ?_
      rintro e w6 ⟨rfl, g6, hc6⟩
      have h6 := h5.chg hc6 (by simpa using hbc)
      have R6 := R5.chg hc6 (by simp)
      have hC6 : Chg [] w w6 := hC5.trans_new hc6 (by simpa using hwc)
      rw [← HREST.out] at g6
      have hxr : x ∉ rest := by rw [HREST.out]; exact not_mem_dropL _ _
      have HXR := Lib.hid hxr
      clear hc6 g5 h5 R5 hC5 hxr
      go_wp2_with fail
      refine (has_in c k x false _ _ g6 hxk (by simp [HXR.out])).mono ?_
      rintro e w7 ⟨rfl, rfl⟩
      go_wp2_with fail
      refine (drop_in c k x false _ _ g6 hxk (by simp [HXR.out])).mono ?_
      rintro e w7 ⟨rfl, g7, hc7⟩
      have h7 := h6.chg hc7 (by simpa using hbc)
      have R7 := R6.chg hc7 (by simp)
      have hC7 : Chg [] w w7 := hC6.trans_new hc7 (by simpa using hwc)
      rw [show dropL rest x = rest by rw [HREST.out, dropL_idem]] at g7
      clear hc7 g6 h6 R6 hC6
      go_wp2_with fail
      refine (row_any c k _ _ g7).mono ?_
      rintro e w8 ⟨v8, rfl, hown8, hc8⟩
      have h8 := h7.chg hc8 (by simp)
      have R8 := R7.chg hc8 (by simp)
      have hC8 : Chg [] w w8 := hC7.trans hc8
      obtain ⟨a8, c8, rfl⟩ := owns_len hown8
      have Q8 := row_of_own hown8
      clear hown8 hc8 g7 h7 R7 hC7
      go_wp2_with fail
      refine (ints_any _ _ rest rest _ Q8 R8.1 (by omega) (by omega)).mono ?_
      rintro e w9 ⟨rfl, n9, hw9⟩
      have h9 : LruAt w9 b k row := by rw [hw9]; exact h8
      have R9 : RowB w3.heap.size c w9 (.slice av rest.length cv) rest := by rw [hw9]; exact R8
      have hC9 : Chg [] w w9 := by rw [hw9]; exact hC8.drewN _
      clear hw9 h8 R8 hC8 Q8
      go_wp2_with fail
      refine (use_in b k x _ _ h9 hxk).mono ?_
      rintro e w10 ⟨rfl, h10, hc10⟩
      have R10 := R9.chg hc10 (by simpa using Or.inl hb3)
      have hC10 : Chg [] w w10 := hC9.trans_new hc10 (by simpa using hwb)
      clear hc10 h9 R9 hC9
      go_wp2_with fail
      refine (row_any b k _ _ h10).mono ?_
      rintro e w11 ⟨v11, rfl, hown11, hc11⟩
      have h11 := h10.chg hc11 (by simp)
      have R11 := R10.chg hc11 (by simp)
      have hC11 : Chg [] w w11 := hC10.trans hc11
      obtain ⟨a11, c11, rfl⟩ := owns_len hown11
      have Q11 := rowB_of_own hown11
      clear hown11 hc11 h10 R10 hC10
      have hown12 := owns_none w11 3
      have hsrc : (av = none → cv = 0) ∧ ((rest.map fun (x : Nat) => Value.int .i64 x) ≠ [] → av ≠ none) ∧ ∀ p, av = some p → ∀ j u, (rest.map fun (x : Nat) => Value.int .i64 x)[j]? = some u → (w11.alloc (.cells #[] 3)).cell? (p.add j) = some u := by
        refine ⟨HNIL.out.1, fun hh => HNIL.out.2 (fun h0 => hh (by rw [List.length_eq_zero_iff.1 h0]; rfl)), fun p hp => ?_⟩
        intro j u hu
        have hj : j < rest.length := by
          rcases Nat.lt_or_ge j rest.length with h | h
          · exact h
          · simp [List.getElem?_eq_none (by simpa using h)] at hu
        rcases R11.1 with ⟨he, _⟩ | ⟨r, c', hv, hx⟩
        · rw [he] at hj; simp at hj
        · injection hv with hv1 hv2 hv3
          rw [hp] at hv1
          cases hv1
          rw [add_at, Nat.zero_add, World.cell?_alloc_lt _ _ _ (World.block_lt_of_cell? _ _ (hx j hj)), hx j hj]
          simp [hj] at hu
          rw [hu]
      have HSRC := Lib.hid hsrc
      clear hsrc
      go_wp2_with (first | (at_builtin; refine wpList_append_want rfl (.tmp 89) (.tmp 90) 27 rfl w11.heap.size 3 i0 (.int .i64 0) 1 8 Try.underlying27 hi0 hz0 hz1 hz2 rfl (by decide) (.slice (some ⟨w11.heap.size, 0, none⟩) 0 0) 0 [] rfl hown12 av rest.length cv (rest.map fun (x : Nat) => Value.int .i64 x) rfl HSRC.out.1 HSRC.out.2.1 (by simp) HSRC.out.2.2 (fun u hu => by simp at hu; obtain ⟨x, _, rfl⟩ := hu; rfl) (by unfold maxLen; omega) (by omega) (by simp) ?_; intro v12 w12 hown13 hg12 _; clear hown12) | (at_builtin; refine wpList_append_want rfl (.tmp 91) (.tmp 93) 27 rfl w11.heap.size 3 i0 (.int .i64 0) 1 8 Try.underlying27 hi0 hz0 hz1 hz2 rfl (by decide) _ (0 + rest.length) _ rfl (hown13.alloc _) (some ⟨w12.heap.size, 0, none⟩) 1 1 [.int .i64 (x : Nat)] rfl (by simp) (by simp) rfl (fun p hp => by cases hp; exact cell_one_new _ _ _) (by simp [Value.oneCell']) (by unfold maxLen; omega) (by omega) (by have := hg12.size; simp at this ⊢; omega) ?_; intro v13 w13 hown14 hg13 _))
      have hc12 : Chg [] w11 w12 := ((Chg.refl [] w11).alloc _).grown hg12 (fun k hk => by injection hk with hk; subst hk; exact .inr (Nat.le_refl _))
      have hc13 : Chg [] w11 w13 := (hc12.alloc _).grown hg13 (owns_block hown13)
      have h13 := h11.chg hc13 (by simp)
      have Q13 := Q11.chg hc13 (by simp)
      have R13 := R11.chg hc13 (by simp)
      have hC13 : Chg [] w w13 := hC11.trans hc13
      have huse : useL row x = rest ++ [x] := by rw [HREST.out]; rfl
      have T13 : Row .i64 w13 v13 (useL row x) := by
        refine row_of_own (base := w11.heap.size) ?_
        unfold OwnI
        rw [huse, List.map_append, List.length_append]
        have := hown14
        rw [Nat.zero_add] at this
        exact this
      have hul : (useL row x).length ≤ 257 := by rw [huse]; simp; omega
      obtain ⟨a13, c13, hv13⟩ := owns_len hown14
      rw [hv13] at T13 ⊢
      clear hv13 hown14 hown13 hg12 hg13 hc12 hc13 HSRC h11 Q11 R11 hC11 huse
      refine (ints_any _ _ (useL row x) (useL row x) _ Q13.1 T13 (by omega) (by omega)).mono ?_
      rintro e w14 ⟨rfl, n14, hw14⟩
      have h14 : LruAt w14 b k (useL row x) := by rw [hw14]; exact h13
      have R14 : RowB w3.heap.size c w14 (.slice av rest.length cv) rest := by rw [hw14]; exact R13
      have hC14 : Chg [] w w14 := by rw [hw14]; exact hC13.drewN _
      clear hw14 h13 R13 hC13 Q13 T13
      go_wp2_with fail
      refine (drop_in b k x true _ _ h14 hxk (by simp [mem_useL])).mono ?_
      rintro e w15 ⟨rfl, h15, hc15⟩
      have R15 := R14.chg hc15 (by simpa using Or.inl hb3)
      have hC15 : Chg [] w w15 := hC14.trans_new hc15 (by simpa using hwb)
      rw [dropL_use, ← HREST.out] at h15
      clear hc15 h14 R14 hC14
      go_wp2_with fail
      refine (row_any b k _ _ h15).mono ?_
      rintro e w16 ⟨v16, rfl, hown16, hc16⟩
      have R16 := R15.chg hc16 (by simp)
      have hC16 : Chg [] w w16 := hC15.trans hc16
      obtain ⟨a16, c16, rfl⟩ := owns_len hown16
      have Q16 := row_of_own hown16
      clear hown16 hc16 h15 R15 hC15
      go_wp2_with fail
      refine (ints_any _ _ rest rest _ Q16 R16.1 (by omega) (by omega)).mono ?_
      rintro e w17 ⟨rfl, n17, hw17⟩
      have hC17 : Chg [] w w17 := by rw [hw17]; exact hC16.drewN _
      clear hw17
      go_wp2
      go_ret
      exact ⟨rfl, hC17.below (Nat.le_refl _) (by simp)⟩

end Go.Proofs.Ytjnipcalncpimaa
