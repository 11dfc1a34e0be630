/- The walk of TimerRow. -/
import Derived.Test.YtlkhaookdmgbnaaLast14
namespace Go.Proofs.Ytlkhaookdmgbnaa
open Go.RowKit

/-- The row of all that was told: where its numbers lie, and which of those that were put each is. -/
structure RowF (w : World) (a8 : Option Addr) (l : List (Int × Int)) (S : List It) (now : Int) (dl : Nat) : Prop where
  cell : ∀ i (h : i < S.length), ∃ g, a8 = some ⟨g, 0, none⟩ ∧ w.cell? ⟨g, i, none⟩ = some (.int .i64 S[i].id)
  idx : ∀ i (h : i < S.length), ∃ k, k < l.length ∧ lastB l l.length k = true ∧ S[i] = mkI l k
  due : ∀ i (h : i < S.length), S[i].due ≤ now ↔ i < dl
  rise : ∀ i j (hi : i < S.length) (hj : j < S.length), i < j → S[i].due < S[j].due ∨ (S[i].due = S[j].due ∧ S[i].put < S[j].put)
  len : S.length = cntL l l.length
def kv (x m : Nat) : Int := if x < m then (x : Int) else -1

theorem rowF_of {w : World} {a8 : Option Addr} {c8 base : Nat} {l : List (Int × Int)} {now : Int} {L : List It} (hL : L = putsT l l.length) (hok : OkL L l.length) (ho : OwnZ base w (.slice a8 (sortL L).length c8) ((sortL L).map It.id)) : RowF w a8 l (sortL L) now (dueL L now).length := by
  refine ⟨fun i hi => ?_, fun i hi => ?_, fun i hi => due_prefix hi, fun i j hi hj hij => sorted_strict hok.rise hi hj hij, ?_⟩
  · rcases ho.row with ⟨e, _⟩ | ⟨g, c, e1, e2⟩
    · have := congrArg List.length e
      rw [List.length_map, List.length_nil] at this
      omega
    · injection e1 with e1 _ _
      have := e2 i (by simpa using hi)
      rw [List.getElem_map] at this
      exact ⟨g, e1, this⟩
  · have hm : (sortL L)[i] ∈ putsT l l.length := by rw [← hL]; exact (sortL_perm L).mem_iff.1 (List.getElem_mem hi)
    exact putsT_mem hm
  · rw [cntL_all, (sortL_perm L).length_eq, hL]

theorem Src.same {w w' : World} {ad : Option Addr} {c : Nat} {d : List Int} (h : Src w ad c d) (hc : Chg [] w w') : Src w' ad c d :=
  ⟨h.empty, h.full, fun q hq j x hx => hc.cell (h.cells q hq j x hx) (by simp)⟩
theorem OwnZ.made (w : World) (base : Nat) (hb : base ≤ w.heap.size) : OwnZ base (w.alloc (.cells #[] 3)) (.slice (some ⟨w.heap.size, 0, none⟩) 0 0) [] :=
  ⟨rfl, .inr ⟨w.heap.size, 0, #[], rfl, hb, heap_new w _, by simp, by simp, rfl, rfl⟩⟩

theorem IsSets.drewN {w : World} {a : Option Addr} {l : List (Int × Int)} (h : IsSets w a l) (n : Nat) : IsSets (w.drewN n) a l := h.same ((Chg.refl [] w).drewN n)
theorem last_q (a : Option Addr) (cap i : Nat) (l : List (Int × Int)) (w : World) (h : IsSets w a l) (hl : l.length ≤ 1000) (hi : i < l.length) (B : Bool) (hB : Hid (B = lastB l l.length i)) (q x : Nat) :
    Calls Try.prog 13 #[.slice a l.length cap, .int .i64 i] (w.drewN (q + x)) fun e w' => e = .returned (.bool B) ∧ ∃ n, w' = w.drewN (q + n) :=
  (last_any a cap i l _ (h.drewN (q + x)) hl hi B hB).mono fun e w' ⟨h1, m, h2⟩ => ⟨h1, x + m, by rw [h2, drew2, Nat.add_assoc]⟩
def atV (S : List It) (i : Nat) : Int := if i = 0 then -1 else ((S.getD (i - 1) itZ).put : Int) - 1
theorem kv_in {k m : Nat} (h : k < m) : kv k m = (k : Int) := by simp [kv, h]
theorem kv_keep {k m : Nat} (h : m ≠ k) : kv k (m + 1) = kv k m := by
  unfold kv
  by_cases e : k < m
  · rw [if_pos e, if_pos (by omega)]
  · rw [if_neg e, if_neg (by omega)]

set_option maxRecDepth 100000 in
set_option maxHeartbeats 8000000 in
theorem timerRow_walk (a0 : Option Addr) (cap0 : Nat) (z0 : List (Int × Int)) (now : Int) (w : World) (w0 : IsSets w a0 z0) (w1 : (Lit.int .i64 now).wf = true) :
    Calls Try.prog 3 #[.slice a0 z0.length cap0, .int .i64 now] w fun e w' => e = .returned (.bool true) ∧ Below w.heap.size w w' := by
  have HS := Lib.hid w0
  have hm0 := w0.1
  have hm0' : z0.length ≤ 9223372036854775807 := by simp only [maxLen] at hm0; omega
  have hnow := (int_i64 w1).2
  clear w0 hm0 w1
  obtain ⟨i0, hi0, hz0, hz1, hz2⟩ := info_parts Try.elemInt
  by_cases hl : z0.length ≤ 150
  · have d1 : decide ((150 : Int) < (z0.length : Int)) = false := by simp; omega
    have d3 : decide (150 < z0.length) = false := by simp; omega
    go_enter Try.func3, Try.ntmps3
    go_wp2_with fail
    refine (awake_any w).mono ?_
    rintro e w1 ⟨rfl, hc1⟩
    clear d1 d3
    go_wp2_with fail
    refine (put_sets a0 cap0 z0 _ (HS.out.same hc1) (by omega)).mono ?_
    rintro e w2 ⟨t, rfl, F, hT2, hF2, ht2, hc2⟩
    have HC2 := Lib.hid (hc1.trans hc2)
    have HF2 : Hid (∀ y ∈ t :: F, w.heap.size ≤ y) := Lib.hid (by
      have := hc1.size
      intro y hy
      rcases List.mem_cons.1 hy with e | e
      · omega
      · have := hF2 y e; omega)
    have HLO : Hid (∀ y ∈ t :: F, y < w2.heap.size) := Lib.hid (by
      intro y hy
      rcases List.mem_cons.1 hy with e | e
      · have := hT2.lt; omega
      · exact hT2.low y e)
    obtain ⟨L, hL⟩ : ∃ L, L = putsT z0 z0.length := ⟨_, rfl⟩
    rw [← hL] at hT2
    have HL := Lib.hid hL
    have hok := hT2.ok
    have HOK := Lib.hid hok
    have hLl : L.length ≤ 150 := Nat.le_trans hok.len hl
    obtain ⟨p, hp⟩ : ∃ p, p = z0.length := ⟨_, rfl⟩
    have HT2 := Lib.hid hT2
    rw [← hp] at HT2
    have hp1 : p ≤ 1000000 := by omega
    clear hc1 hc2 hF2 ht2 hL hok hT2 hp
    go_wp2_with fail
    refine (due_any t F L p now _ HT2.out hp1).mono ?_
    rintro e w3 ⟨v3, rfl, o3, m3, c3⟩
    obtain ⟨ad3, cp3, rfl, s1, s2, s3⟩ := o3.src
    have HM3 := Lib.hid m3
    have HO3 := Lib.hid o3
    have HC3 : Hid (Chg [] w w3) := Lib.hid (HC2.out.trans_new c3 fun y hy => .inr (HF2.out y hy))
    have hs23 := c3.size
    clear o3 m3 c3 s1 s2 s3
    go_wp2_with fail
    refine (due_any t F (restL L now) p 9223372036854775807 _ HM3.out hp1).mono ?_
    rintro e w4 ⟨v4, rfl, o4, m4, c4⟩
    have HO34 := Lib.hid (OwnZ.chg HO3.out c4 HLO.out)
    have HC4 : Hid (Chg [] w w4) := Lib.hid (HC3.out.trans_new c4 fun y hy => .inr (HF2.out y hy))
    have hs34 := c4.size
    have hR : restL (restL L now) 9223372036854775807 = [] := by rw [rest_split L hnow]; exact (due_all HOK.out.dueI).2
    rw [hR] at m4
    have HM4 := Lib.hid m4
    obtain ⟨d1, hd1⟩ : ∃ d1, d1 = dueL L now := ⟨_, rfl⟩
    obtain ⟨d2, hd2⟩ : ∃ d2, d2 = dueL (restL L now) 9223372036854775807 := ⟨_, rfl⟩
    have HALL : Hid (d1 ++ d2 = (sortL L).map It.id) := Lib.hid (by rw [hd1, hd2, due_split HOK.out.rise hnow]; exact (due_all HOK.out.dueI).1)
    rw [← hd2] at o4
    rw [← hd1] at HO34 ⊢
    obtain ⟨ad4, cp4, rfl, r1, r2, r3⟩ := o4.src
    have HS4 : Hid (Src w4 ad4 cp4 d2) := Lib.hid ⟨r1, r2, r3⟩
    have HS3 : Hid (Src w4 ad3 cp3 d1) := Lib.hid (by
      obtain ⟨a, c, e, q1, q2, q3⟩ := OwnZ.src HO34.out
      injection e with e1 _ e3
      subst e1; subst e3
      exact ⟨q1, q2, q3⟩)
    have hdl : d1.length + d2.length ≤ 150 := by
      have := congrArg List.length HALL.out
      rw [List.length_append, List.length_map, (sortL_perm L).length_eq] at this
      omega
    have HD1 := Lib.hid hd1
    clear o4 m4 c4 r1 r2 r3 hR hd1 hd2 HO3 HM3 HO34
    have hal : Chg [] w4 (w4.alloc (.cells #[] 3)) := (Chg.refl [] w4).alloc _
    have HO5 := Lib.hid (OwnZ.made w4 w4.heap.size (Nat.le_refl _))
    have HS3' : Hid (Src (w4.alloc (.cells #[] 3)) ad3 cp3 d1) := Lib.hid ⟨HS3.out.empty, HS3.out.full, fun q hq j x hx => hal.cell (HS3.out.cells q hq j x hx) (by simp)⟩
    obtain ⟨S, hS⟩ : ∃ S, S = sortL L := ⟨_, rfl⟩
    obtain ⟨N, hN⟩ : ∃ N, N = S.length := ⟨_, rfl⟩
    have hdN : 0 + d1.length + d2.length = N := by
      have := congrArg List.length HALL.out
      rw [List.length_append, List.length_map, ← hS, ← hN] at this
      omega
    have HSN := Lib.hid (And.intro hS (And.intro hN hdN))
    have hN150 : N ≤ 150 := by omega
    clear hS hN hdN
    go_wp2_with (at_builtin; first
      | (refine wpList_append_src rfl (.tmp 30) (.tmp 31) 26 rfl w4.heap.size 3 i0 (.int .i64 0) 1 8 Try.underlying26 hi0 hz0 hz1 hz2 rfl (by decide) (.slice (some ⟨w4.heap.size, 0, none⟩) 0 0) 0 _ rfl HO5.out ad3 d1.length cp3 (d1.map fun x => Value.int .i64 x) rfl HS3'.out.empty HS3'.out.full (by simp) HS3'.out.cells (one_ints d1) (by unfold maxLen; omega) (by omega) (by simp) ?_; go_must (intro v5 w5 own5 hg5 _; have hc5 : Chg [] w4 w5 := hal.grown hg5 (fun k hk => by simp [Value.ownBlock] at hk; right; omega); have HS5 := Lib.hid (HS4.out.same hc5); have OWN5 := Lib.hid own5; have hs5 := hc5.size; clear own5 hg5))
      | (go_must (refine wpList_append_src rfl (.tmp 32) (.tmp 33) 26 rfl w4.heap.size 3 i0 (.int .i64 0) 1 8 Try.underlying26 hi0 hz0 hz1 hz2 rfl (by decide) v5 (0 + d1.length) _ rfl OWN5.out ad4 d2.length cp4 (d2.map fun x => Value.int .i64 x) rfl HS5.out.empty HS5.out.full (by simp) HS5.out.cells (one_ints d2) (by unfold maxLen; omega) (by omega) hs5 ?_); go_must (intro v6 w6 own6 hg6 _; have hc6 : Chg [] w4 w6 := hc5.grown hg6 (fun k hk => by rcases owns_block OWN5.out k hk with e | e; simp at e; exact .inr e); obtain ⟨a8, c8, hv8⟩ := owns_len own6; have OWN6 := Lib.hid own6; rw [HSN.out.2.2] at hv8; rw [hv8] at OWN6; subst hv8; clear own6 hg6)))
    have HC6 : Hid (Chg [] w w6) := Lib.hid (HC4.out.trans hc6)
    have HT6 : Hid (TimersAt w6 t F [] p) := Lib.hid (HM4.out.same hc6)
    have HS6 : Hid (IsSets w6 a0 z0) := Lib.hid (HS.out.same HC6.out)
    have HRF : Hid (RowF w6 a8 z0 S now d1.length) := Lib.hid (by
      obtain ⟨hS, hN, hdN⟩ := HSN.out
      have ho : OwnZ w4.heap.size w6 (.slice a8 (sortL L).length c8) ((sortL L).map It.id) := by
        have := OWN6.out
        unfold OwnZ
        rw [← HALL.out, ← hS, ← hN, List.length_append, List.map_append]
        rw [Nat.zero_add] at this
        exact this
      rw [hS, HD1.out]
      exact rowF_of HL.out HOK.out ho)
    have HN := Lib.hid HSN.out.2.1
    clear HC4 HM4 HS OWN6 OWN5 HS5 HS3 HS3' HS4 HO5 hal hc5 hc6 hs5 HSN HALL HD1 HOK HL HLO HF2 HC2 HC3 HT2
    go_loopw [9, 11] (fun v9 v11 wr => ∃ i q : Nat, i ≤ N ∧ v11 = .int .i64 i ∧ wr = w6.drewN q ∧ v9 = .int .i64 (atV S i)) (fun _ v11 _ => N - (intOf v11).toNat)
    case atStart => exact ⟨0, 0, by omega, rfl, rfl, rfl⟩
    case round =>
      obtain ⟨i, q, hi, rfl, rfl, rfl⟩ := hrel
      by_cases hlt : i < N
      · have hiS : i < S.length := by have := HN.out; omega
        obtain ⟨k, hk, hlast, hSk⟩ := HRF.out.idx i hiS
        obtain ⟨g, rfl, hcg⟩ := HRF.out.cell i hiS
        have HK := Lib.hid (And.intro hlast hSk)
        obtain ⟨x, hx⟩ : ∃ x, x = S[i].id := ⟨_, rfl⟩
        rw [← hx] at hcg
        have HX := Lib.hid hx
        have b0 : (i : Int) < (N : Int) := by omega
        clear hlast hSk hx
        go_wp2_with fail
        go_loopw [12, 13] (fun v12 v13 wr => ∃ m q : Nat, m ≤ z0.length ∧ v13 = .int .i64 m ∧ wr = w6.drewN q ∧ v12 = .int .i64 (kv k m)) (fun _ v13 _ => z0.length - (intOf v13).toNat)
        case atStart => exact ⟨0, q, by omega, rfl, rfl, by simp [kv]⟩
        case round =>
          obtain ⟨m, q2, hm, rfl, rfl, rfl⟩ := hrel
          by_cases hml : m < z0.length
          · obtain ⟨b, o, rfl, c0, c1, c2, c3⟩ := HS6.out.at2 hml hk
            obtain ⟨y, hy⟩ : ∃ y, y = (z0.getD m (0, 0)).1 := ⟨_, rfl⟩
            rw [← hy] at c0
            have HY := Lib.hid hy
            have b1 : (m : Int) < (z0.length : Int) := by omega
            obtain ⟨kk, hkk⟩ : ∃ kk, kk = kv k m := ⟨_, rfl⟩
            have HKK := Lib.hid hkk
            rw [← hkk]
            clear hy c1 c2 c3 hkk
            by_cases e : y = x
            · have t1 : (y == x) = true := by simpa using e
              have HE := Lib.hid e
              clear e
              by_cases hb : lastB z0 z0.length m = true
              · have HB : Hid (true = lastB z0 z0.length m) := Lib.hid hb.symm
                have hmk : m = k := last_one hml hk hb HK.out.1 (by rw [← HY.out, HE.out, HX.out, HK.out.2]; rfl)
                have HMK := Lib.hid hmk
                clear hb hmk
                go_wp2_with fail
                go_quiet ((go_at_call 13; go_must (exact last_q _ cap0 m z0 w6 HS6.out (by omega) hml true HB _ _)))
                go_wp2
                go_roundw
                case rel => exact ⟨m + 1, _, by omega, by go_num, rfl, by rw [kv_in (by have := HMK.out; omega), HMK.out]⟩
                case measure => simp [intOf]; omega
              · have hb' : lastB z0 z0.length m = false := by simpa using hb
                have HB : Hid (false = lastB z0 z0.length m) := Lib.hid hb'.symm
                have HMK : Hid (m ≠ k) := Lib.hid (fun e => hb (e ▸ HK.out.1))
                clear hb hb'
                go_wp2_with fail
                go_quiet ((go_at_call 13; go_must (exact last_q _ cap0 m z0 w6 HS6.out (by omega) hml false HB _ _)))
                go_wp2
                go_roundw
                case rel => exact ⟨m + 1, _, by omega, by go_num, rfl, by rw [kv_keep HMK.out, HKK.out]⟩
                case measure => simp [intOf]; omega
            · have t1 : (y == x) = false := by simpa using e
              have HMK : Hid (m ≠ k) := Lib.hid (fun e2 => e (by rw [HY.out, e2, HX.out, HK.out.2]; rfl))
              clear e
              go_wp2_with fail
              go_quiet (fail)
              go_wp2
              go_roundw
              case rel => exact ⟨m + 1, _, by omega, by go_num, rfl, by rw [kv_keep HMK.out, HKK.out]⟩
              case measure => simp [intOf]; omega
          · obtain rfl : m = z0.length := by omega
            rw [kv_in hk]
            obtain ⟨Bd, hBd⟩ : ∃ Bd, Bd = decide (S[i].due ≤ now) := ⟨_, rfl⟩
            have hBi : decide ((i : Int) < (d1.length : Int)) = Bd := by
              rw [hBd, Bool.eq_iff_iff, decide_eq_true_iff, decide_eq_true_iff, HRF.out.due i hiS]
              omega
            have hBn : decide (i < d1.length) = Bd := by
              rw [hBd, Bool.eq_iff_iff, decide_eq_true_iff, decide_eq_true_iff, HRF.out.due i hiS]
            obtain ⟨d, hd⟩ : ∃ d, d = S[i].due := ⟨_, rfl⟩
            have hdk : (z0.getD k (0, 0)).2 = d := by rw [hd, HK.out.2]; rfl
            have hBd2 : decide (d ≤ now) = Bd := by rw [hBd, hd]
            have hBB : (Bd != Bd) = false := by cases Bd <;> rfl
            have HDD := Lib.hid (And.intro hd hBd)
            have k0 : decide ((k : Int) < 0) = false := by simp
            have k1 : (k : Int) < (z0.length : Int) := by omega
            by_cases hz : i = 0
            · have ha : atV S i = -1 := by simp [atV, hz]
              rw [ha]
              obtain ⟨b, o, rfl, c0, c1, _, _⟩ := HS6.out.at2 hk hk
              rw [hdk] at c1
              have HZ := Lib.hid hz
              clear hd hBd hdk ha c0 hz
              go_wp2_with fail
              go_quiet (fail)
              go_wp2
              go_roundw
              case rel => exact ⟨i + 1, _, by omega, by go_num, rfl, by simp [atV, hiS, HK.out.2, mkI]⟩
              case measure => simp [intOf]; omega
            · have hi1 : i - 1 < S.length := by omega
              obtain ⟨j, hj, _, hSj⟩ := HRF.out.idx (i - 1) hi1
              have hr := HRF.out.rise (i - 1) i hi1 hiS (by omega)
              have ha : atV S i = (j : Int) := by
                unfold atV
                rw [if_neg hz]
                have : S.getD (i - 1) itZ = S[i - 1] := by simp [hi1]
                rw [this, hSj]
                simp [mkI]
              rw [ha]
              obtain ⟨b, o, rfl, _, c1, _, c3⟩ := HS6.out.at2 hk hj
              rw [hdk] at c1
              obtain ⟨d0, hd0⟩ : ∃ d0, d0 = (z0.getD j (0, 0)).2 := ⟨_, rfl⟩
              rw [← hd0] at c3
              have hr2 : d0 < d ∨ (d0 = d ∧ j < k) := by
                rw [hSj, ← hd] at hr
                have e1 : (mkI z0 j).due = d0 := by rw [hd0]; rfl
                have e2 : (mkI z0 j).put = j + 1 := rfl
                have e3 : S[i].put = k + 1 := by rw [HK.out.2]; rfl
                rw [e1, e2, e3] at hr
                omega
              have j0 : decide ((0 : Int) ≤ (j : Int)) = true := by simp
              have j1 : (j : Int) < (z0.length : Int) := by omega
              have f1 : decide (d < d0) = false := by simp; omega
              clear hd hBd hdk ha hr hSj hd0
              rcases hr2 with hr2 | ⟨hr2, hr3⟩
              · have f2 : (d0 == d) = false := by simp; omega
                clear hr2
                go_wp2_with fail
                go_quiet (fail)
                go_wp2
                go_roundw
                case rel => exact ⟨i + 1, _, by omega, by go_num, rfl, by simp [atV, hiS, HK.out.2, mkI]⟩
                case measure => simp [intOf]; omega
              · have f2 : (d0 == d) = true := by simp; omega
                have f3 : decide ((k : Int) ≤ (j : Int)) = false := by simp; omega
                have f4 : decide (k ≤ j) = false := by simp; omega
                clear hr2
                go_wp2_with fail
                go_quiet (fail)
                go_wp2
                go_roundw
                case rel => exact ⟨i + 1, _, by omega, by go_num, rfl, by simp [atV, hiS, HK.out.2, mkI]⟩
                case measure => simp [intOf]; omega
      · obtain rfl : i = N := by omega
        have HCN : Hid (i = cntL z0 z0.length) := Lib.hid (by rw [HN.out]; exact HRF.out.len)
        go_wp2_with fail
        go_loopw [10, 14] (fun v10 v14 wr => ∃ m q : Nat, m ≤ z0.length ∧ v14 = .int .i64 m ∧ wr = w6.drewN q ∧ v10 = .int .i64 (cntL z0 m)) (fun _ v14 _ => z0.length - (intOf v14).toNat)
        case atStart => exact ⟨0, q, by omega, rfl, rfl, rfl⟩
        case round =>
          obtain ⟨m, q2, hm, rfl, rfl, rfl⟩ := hrel
          obtain ⟨cm, hcm⟩ : ∃ cm, cm = cntL z0 m := ⟨_, rfl⟩
          have hcle : cm ≤ 150 := by have := cntL_le z0 m; omega
          rw [← hcm]
          have HCM := Lib.hid hcm
          clear hcm
          by_cases hml : m < z0.length
          · have b1 : (m : Int) < (z0.length : Int) := by omega
            by_cases hb : lastB z0 z0.length m = true
            · have HB : Hid (true = lastB z0 z0.length m) := Lib.hid hb.symm
              clear hb
              go_wp2_with fail
              refine (last_any a0 cap0 m z0 _ (HS6.out.drewN q2) (by omega) hml true HB).mono ?_
              rintro e w7 ⟨rfl, n7, rfl⟩
              go_wp2
              go_roundw
              case rel => exact ⟨m + 1, q2 + n7, by omega, by go_num, by first | rfl | exact drew2 _ _ _, by rw [cntL_succ, ← HB.out, HCM.out]; rfl⟩
              case measure => simp [intOf]; omega
            · have hb' : lastB z0 z0.length m = false := by simpa using hb
              have HB : Hid (false = lastB z0 z0.length m) := Lib.hid hb'.symm
              clear hb hb'
              go_wp2_with fail
              refine (last_any a0 cap0 m z0 _ (HS6.out.drewN q2) (by omega) hml false HB).mono ?_
              rintro e w7 ⟨rfl, n7, rfl⟩
              go_wp2
              go_roundw
              case rel => exact ⟨m + 1, q2 + n7, by omega, by go_num, by first | rfl | exact drew2 _ _ _, by rw [cntL_succ, ← HB.out, HCM.out]; rfl⟩
              case measure => simp [intOf]; omega
          · obtain rfl : m = z0.length := by omega
            have e1 : cm = i := by rw [HCM.out, HCN.out]
            subst e1
            have e2 : ((cm : Int) == (cm : Int)) = true := by simp
            go_wp2_with fail
            refine (len_any t F [] p _ (HT6.out.drewN q2)).mono ?_
            rintro e w7 ⟨rfl, rfl⟩
            go_wp2
            go_ret
            exact ⟨rfl, (HC6.out.drewN q2).below (Nat.le_refl _) (by simp)⟩
  · have d1 : decide ((150 : Int) < (z0.length : Int)) = true := by simp; omega
    have d3 : decide (150 < z0.length) = true := by simp; omega
    go_enter Try.func3, Try.ntmps3
    go_wp2_with fail
    refine (awake_any w).mono ?_
    rintro e w1 ⟨rfl, hc1⟩
    go_wp2
    go_ret
    exact ⟨rfl, hc1.below (Nat.le_refl _) (by simp)⟩

end Go.Proofs.Ytlkhaookdmgbnaa
