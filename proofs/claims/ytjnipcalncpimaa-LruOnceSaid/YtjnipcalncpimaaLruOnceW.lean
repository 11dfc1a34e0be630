/- The walk of LruOnce. -/
import Derived.Test.YtjnipcalncpimaaLruApartW
namespace Go.Proofs.Ytjnipcalncpimaa
open Go.RowKit

/-- How often a number stands in a row. -/
def cntOf (l : List Nat) (p : Int) : Nat := (l.filter fun (x : Nat) => decide ((x : Int) = p)).length
theorem cntOf_snoc_eq (l : List Nat) (y : Nat) (p : Int) (h : (y : Int) = p) : cntOf (l ++ [y]) p = cntOf l p + 1 := by simp [cntOf, List.filter_append, h]
theorem cntOf_snoc_ne (l : List Nat) (y : Nat) (p : Int) (h : (y : Int) ≠ p) : cntOf (l ++ [y]) p = cntOf l p := by simp [cntOf, List.filter_append, h]
theorem cntOf_le (l : List Nat) (p : Int) : cntOf l p ≤ l.length := List.length_filter_le _ _
theorem cntOf_has (k : Nat) (row : List Nat) (p : Int) (hnd : row.Nodup) (hlt : ∀ x ∈ row, x < k) : hasI k row p = decide (cntOf row p = 1) := by
  unfold hasI isSlot
  rw [Bool.eq_iff_iff]
  simp only [Bool.and_eq_true, decide_eq_true_eq]
  constructor
  · rintro ⟨⟨h0, _⟩, hm⟩
    obtain ⟨q, rfl⟩ : ∃ q : Nat, p = q := ⟨p.toNat, by omega⟩
    rw [Int.toNat_natCast] at hm
    clear h0
    induction row with
    | nil => simp at hm
    | cons y l ih =>
      have hnd' := List.nodup_cons.1 hnd
      rcases List.mem_cons.1 hm with hh | hh
      · subst hh
        have : cntOf l (q : Int) = 0 := by
          unfold cntOf
          rw [List.length_eq_zero_iff, List.filter_eq_nil_iff]
          intro z hz hzz
          have hzq : z = q := by simp at hzz; omega
          subst hzq
          exact hnd'.1 hz
        unfold cntOf at this ⊢
        simp [this]
      · have hyq : y ≠ q := fun e => hnd'.1 (e ▸ hh)
        have := ih hnd'.2 (fun x hx => hlt x (List.mem_cons_of_mem _ hx)) hh
        unfold cntOf at this ⊢
        rw [List.filter_cons, if_neg (by simp; omega)]
        exact this
  · intro h
    have hne : (row.filter fun (x : Nat) => decide ((x : Int) = p)) ≠ [] := by
      intro e
      unfold cntOf at h
      rw [e] at h
      simp at h
    obtain ⟨y, hy⟩ := List.exists_mem_of_ne_nil _ hne
    rw [List.mem_filter] at hy
    have hyp : (y : Int) = p := by simpa using hy.2
    have := hlt y hy.1
    refine ⟨⟨by omega, by omega⟩, ?_⟩
    rw [← hyp, Int.toNat_natCast]
    exact hy.1

def OnceR1 (row : List Nat) (p : Int) (w3 : World) (c i : Value) (wr : World) : Prop :=
  ∃ j m : Nat, j ≤ row.length ∧ i = .int .i64 j ∧ c = .int .i64 (cntOf (row.take j) p : Nat) ∧ wr = w3.drewN m
def OnceR2 (i : Nat) (w3 : World) (j : Value) (wr : World) : Prop := ∃ t m : Nat, t ≤ i ∧ j = .int .i64 t ∧ wr = w3.drewN m

set_option maxRecDepth 100000 in
set_option maxHeartbeats 4000000 in
theorem lruOnce_walk (n : Int) (a : Option Addr) (cap : Nat) (acts : List (Nat × Int)) (p : Int) (w : World) (_hn : (Lit.int .i64 n).wf = true) (h : IsActs w a acts) (_hp : (Lit.int .i64 p).wf = true) :
    Calls Try.prog 6 #[.int .i64 n, .slice a acts.length cap, .int .i64 p] w fun e w' => e = .returned (.bool true) ∧ Below w.heap.size w w' := by
  obtain ⟨hmax, _⟩ := id h
  unfold maxLen at hmax
  have H := Lib.hid h
  clear h
  by_cases hbig : 1000 < acts.length
  · go_enter Try.func6, Try.ntmps6
    go_wp2_with fail
    refine (awake_any _).mono ?_
    rintro e w1 ⟨rfl, hc1⟩
    go_wp2
    go_ret
    exact ⟨rfl, hc1.below (Nat.le_refl _) (by simp)⟩
  have hd1 : decide (1000 < acts.length) = false := by simp; omega
  go_enter Try.func6, Try.ntmps6
  go_wp2_with fail
  refine (awake_any _).mono ?_
  rintro e w1 ⟨rfl, hc1⟩
  go_wp2_with fail
  refine (made_any n a cap acts _ (H.out.chg hc1)).mono ?_
  rintro e w2 ⟨rfl, h2, hc2⟩
  obtain ⟨b, hb⟩ : ∃ b, b = w1.heap.size := ⟨_, rfl⟩
  rw [← hb] at h2 ⊢
  clear hb
  obtain ⟨k, hk⟩ : ∃ k, k = slotsOf n := ⟨_, rfl⟩
  have hkb := slotsOf_pos n
  rw [← hk] at h2 hkb ⊢
  have hC2 : Chg [] w w2 := hc1.trans hc2
  have hrl := h2.len
  obtain ⟨row, hrow⟩ : ∃ row, row = rowOf k acts := ⟨_, rfl⟩
  rw [← hrow] at h2 hrl
  clear hk hrow hc1 hc2
  go_wp2_with fail
  refine (row_any b k _ _ h2).mono ?_
  rintro e w3 ⟨v3, rfl, hown3, hc3⟩
  have h3 := h2.chg hc3 (by simp)
  have hC3 : Chg [] w w3 := hC2.trans hc3
  obtain ⟨a3, c3, rfl⟩ := owns_len hown3
  have R3 := row_of_own hown3
  have hlt3 := h3.2.1
  have hnd3 := h3.nodup
  obtain ⟨cn, hcn⟩ : ∃ cn, cn = cntOf row p := ⟨_, rfl⟩
  have hhas := cntOf_has k row p hnd3 hlt3
  rw [← hcn] at hhas
  have HCN := Lib.hid hcn
  have HHAS := Lib.hid hhas
  have HLT := Lib.hid hlt3
  have HND := Lib.hid hnd3
  have hcnl : cn ≤ 256 := by rw [hcn]; exact Nat.le_trans (cntOf_le _ _) hrl
  clear hown3 hc3 hC2 h2 hcn hhas hlt3 hnd3
  by_cases hnil : row = []
  · subst hnil
    clear R3
    simp only [List.length_nil]
    have hcn0 : cn = 0 := by rw [HCN.out]; rfl
    subst hcn0
    go_wp2_with fail
    go_loop [10, 11] (fun c i => c = .int .i64 0 ∧ i = .int .i64 0) (fun _ _ => 0)
    case atStart => exact ⟨rfl, rfl⟩
    case round =>
      obtain ⟨rfl, rfl⟩ := hrel
      go_wp2_with fail
      refine (oldest_any b k 0 false _ _ h3 rfl rfl).mono ?_
      rintro e w4 ⟨rfl, rfl⟩
      go_wp2_with fail
      refine (newest_any b k 0 false _ _ h3 rfl rfl).mono ?_
      rintro e w4 ⟨rfl, rfl⟩
      go_wp2_with fail
      refine (len_any b k _ _ h3).mono ?_
      rintro e w4 ⟨rfl, hc4⟩
      have h4 := h3.chg hc4 (by simp)
      have hC4 : Chg [] w w4 := hC3.trans hc4
      go_wp2_with fail
      refine (has_at b k p _ _ h4).mono ?_
      rintro e w5 ⟨rfl, rfl⟩
      rw [HHAS.out]
      go_wp2
      go_ret
      exact ⟨rfl, hC4.below (Nat.le_refl _) (by simp)⟩
  · obtain ⟨r, c', hv, hx⟩ : ∃ r c, (Value.slice a3 row.length c3) = .slice (some ⟨r, 0, none⟩) row.length c ∧ ∀ i (h : i < row.length), w3.cell? ⟨r, i, none⟩ = some (.int .i64 (row[i] : Nat)) := by
      rcases R3 with ⟨he, _⟩ | hh
      · exact absurd he hnil
      · exact hh
    injection hv with hv1 hv2 hv3
    subst hv1
    have HX := Lib.hid hx
    have HNIL := Lib.hid hnil
    clear hv2 hv3 hx hnil R3
    go_wp2_with fail
    go_loopw [10, 11] (OnceR1 row p w3) (fun _ i _ => row.length - (intOf i).toNat)
    case atStart => exact ⟨0, 0, Nat.zero_le _, rfl, rfl, rfl⟩
    case round =>
      obtain ⟨j, m, hj, rfl, rfl, rfl⟩ := hrel
      by_cases hlt : j < row.length
      · have d1 := HX.out j hlt
        have hyk : row[j] < k := HLT.out _ (List.getElem_mem _)
        obtain ⟨y, hy⟩ : ∃ y, y = row[j] := ⟨_, rfl⟩
        rw [← hy] at d1 hyk
        have htk : row.take (j + 1) = row.take j ++ [y] := by rw [List.take_succ_eq_append_getElem hlt, ← hy]
        have HTK := Lib.hid htk
        have HY := Lib.hid hy
        have hjj : (j : Int) < (row.length : Int) := by omega
        have t1 : decide ((y : Int) < 0) = false := by simp
        have t2 : decide (k ≤ y) = false := by simp; omega
        have hcj := cntOf_le (row.take j) p
        have hcj2 : (row.take j).length ≤ 256 := by simp; omega
        obtain ⟨cj, hcje⟩ : ∃ cj, cj = cntOf (row.take j) p := ⟨_, rfl⟩
        rw [← hcje] at hcj ⊢
        have HCJ := Lib.hid hcje
        have hcjb : cj ≤ 256 := by omega
        clear htk hy hcje hcj hcj2
        go_wp2_with fail
        refine (has_in b k y true row _ (h3.chg (S := []) ((Chg.refl [] w3).drewN m) (by simp)) hyk (by rw [HY.out]; simp)).mono ?_
        rintro e w4 ⟨rfl, rfl⟩
        go_wp2_with fail
        go_loopw [12] (OnceR2 j w3) (fun t _ => j - (intOf t).toNat)
        case atStart => exact ⟨0, m, Nat.zero_le _, rfl, rfl⟩
        case round =>
          obtain ⟨t, m2, ht, rfl, rfl⟩ := hrel
          by_cases hlt2 : t < j
          · have d2 := HX.out t (by omega)
            have hne : row[t] ≠ y := by
              rw [HY.out]
              intro e
              have := (List.getElem_inj HND.out).1 e
              omega
            obtain ⟨z, hz⟩ : ∃ z, z = row[t] := ⟨_, rfl⟩
            rw [← hz] at d2 hne
            have htt : (t : Int) < (row.length : Int) := by omega
            have t3 : ((z : Int) == (y : Int)) = false := by simp; omega
            clear hz hne
            go_wp2_with fail
            go_quiet (fail)
            go_wp2
            go_roundw
            case rel => exact ⟨t + 1, _, by omega, by go_num, rfl⟩
            case measure => simp [intOf] <;> omega
          · by_cases hyp : (y : Int) = p
            · have t4 : ((y : Int) == p) = true := by simp [hyp]
              have hsn := cntOf_snoc_eq (row.take j) y p hyp
              rw [← HTK.out, ← HCJ.out] at hsn
              have HSN := Lib.hid hsn
              clear hyp hsn
              go_wp2
              go_roundw
              case rel => exact ⟨j + 1, _, by omega, by go_num, by rw [HSN.out]; go_num, rfl⟩
              case measure => simp [intOf] <;> omega
            · have t4 : ((y : Int) == p) = false := by simp [hyp]
              have hsn := cntOf_snoc_ne (row.take j) y p hyp
              rw [← HTK.out, ← HCJ.out] at hsn
              have HSN := Lib.hid hsn
              clear hyp hsn
              go_wp2
              go_roundw
              case rel => exact ⟨j + 1, _, by omega, by go_num, by rw [HSN.out], rfl⟩
              case measure => simp [intOf] <;> omega
      · obtain rfl : j = row.length := by omega
        rw [List.take_of_length_le (Nat.le_refl _), ← HCN.out]
        have h4 := h3.chg (S := []) ((Chg.refl [] w3).drewN m) (by simp)
        have hC4 : Chg [] w (w3.drewN m) := hC3.drewN m
        have HX4 : Hid (∀ i (h : i < row.length), (w3.drewN m).cell? ⟨r, i, none⟩ = some (.int .i64 (row[i] : Nat))) := HX.out
        obtain ⟨w4, hw4⟩ : ∃ w4, w4 = w3.drewN m := ⟨_, rfl⟩
        rw [← hw4] at h4 hC4 HX4 ⊢
        clear hw4 h3 hC3 HX
        have hnil := HNIL.out
        · have hpos : 0 < row.length := List.length_pos_iff.2 hnil
          obtain ⟨f, hf⟩ : ∃ f, f = firstOf row := ⟨_, rfl⟩
          obtain ⟨l, hl⟩ : ∃ l, l = lastOf row := ⟨_, rfl⟩
          have hem : true = !row.isEmpty := by cases row with | nil => exact absurd rfl hnil | cons y l => rfl
          have df := HX4.out 0 hpos
          have hf2 : row[0] = f := by rw [hf]; unfold firstOf; cases row with | nil => exact absurd rfl hnil | cons y l => rfl
          have dl := HX4.out (row.length - 1) (by omega)
          have hl2 : row[row.length - 1]'(by omega) = l := by
            rw [hl]; unfold lastOf
            rw [List.getLastD_eq_getLast?, List.getLast?_eq_getElem?, List.getElem?_eq_getElem (by omega)]
            rfl
          rw [hf2] at df
          rw [hl2] at dl
          have HF := Lib.hid hf
          have HL := Lib.hid hl
          have HEM := Lib.hid hem
          clear hf hl hf2 hl2 hem hnil
          go_wp2_with fail
          refine (oldest_any b k f true _ _ h4 HF.out HEM.out).mono ?_
          rintro e w5 ⟨rfl, rfl⟩
          go_wp2_with fail
          refine (newest_any b k l true _ _ h4 HL.out HEM.out).mono ?_
          rintro e w5 ⟨rfl, rfl⟩
          go_wp2_with fail
          refine (len_any b k _ _ h4).mono ?_
          rintro e w5 ⟨rfl, hc5⟩
          have h5 := h4.chg hc5 (by simp)
          have hC5 : Chg [] w w5 := hC4.trans hc5
          have ef := hc5.cell df (by simp)
          have el := hc5.cell dl (by simp)
          clear df dl h4 hC4 hc5
          go_wp2_with fail
          refine (has_at b k p _ _ h5).mono ?_
          rintro e w6 ⟨rfl, rfl⟩
          rw [HHAS.out]
          have t5 : decide (0 < row.length) = true := by simpa using hpos
          have t6 : (((row.length : Int)) - 1) = ((row.length - 1 : Nat) : Int) := by omega
          by_cases hc1 : cn = 1
          · subst hc1
            go_wp2
            go_ret
            exact ⟨rfl, hC5.below (Nat.le_refl _) (by simp)⟩
          · have t7 : ((cn : Int) == 1) = false := by simp; omega
            rw [decide_eq_false hc1]
            go_wp2
            go_ret
            exact ⟨rfl, hC5.below (Nat.le_refl _) (by simp)⟩

end Go.Proofs.Ytjnipcalncpimaa
