/- The walk of TimerAnew. -/
import Derived.Test.YtlkhaookdmgbnaaTimT
namespace Go.Proofs.Ytlkhaookdmgbnaa
open Go.RowKit

def AnewR (w3 : World) (lb : List Int) (x : Int) (v18 v19 : Value) (wr : World) : Prop :=
  ∃ i, i ≤ lb.length ∧ v19 = .int .i64 (i : Nat) ∧ OwnZ w3.heap.size wr v18 ((lb.take i).filter fun y => decide (y ≠ x)) ∧ Chg [] w3 wr

set_option maxRecDepth 100000 in
set_option maxHeartbeats 8000000 in
theorem timerAnew_walk (a0 : Option Addr) (cap0 : Nat) (z0 : List (Int × Int)) (which id due : Int) (w : World) (w0 : IsSets w a0 z0) (w1 : (Lit.int .i64 which).wf = true) (w2 : (Lit.int .i64 id).wf = true) (w3 : (Lit.int .i64 due).wf = true) :
    Calls Try.prog 5 #[.slice a0 z0.length cap0, .int .i64 which, .int .i64 id, .int .i64 due] w fun e w' => e = .returned (.bool true) ∧ Below w.heap.size w w' := by
  have HS := Lib.hid w0
  have hm0 := w0.1
  have hm0' : z0.length ≤ 9223372036854775807 := by simp only [maxLen] at hm0; omega
  have HID := Lib.hid (int_i64 w2)
  have HDUE := Lib.hid (int_i64 w3)
  clear w0 hm0 w1 w2 w3
  obtain ⟨i0, hi0, hz0, hz1, hz2⟩ := info_parts Try.elemInt
  by_cases hl : z0.length ≤ 150
  · have d1 : decide ((150 : Int) < (z0.length : Int)) = false := by simp; omega
    have d3 : decide (150 < z0.length) = false := by simp; omega
    go_enter Try.func5, Try.ntmps5
    go_wp2_with fail
    refine (awake_any w).mono ?_
    rintro e w1 ⟨rfl, hc1⟩
    clear d1 d3
    go_wp2_with fail
    refine (put_sets a0 cap0 z0 _ (HS.out.same hc1) (by omega)).mono ?_
    rintro e w2 ⟨t, rfl, h2⟩
    have HS2 := Lib.hid ((HS.out.same hc1).same h2.chg)
    have H2 := Lib.hid h2
    clear h2
    go_wp2_with fail
    refine (put_sets a0 cap0 z0 _ HS2.out (by omega)).mono ?_
    rintro e w3 ⟨u, rfl, h3⟩
    have HT3 := Lib.hid (TU.made hc1 H2.out h3)
    obtain ⟨L, hL⟩ : ∃ L, L = putsT z0 z0.length := ⟨_, rfl⟩
    rw [← hL] at HT3
    obtain ⟨p, hp⟩ : ∃ p, p = z0.length := ⟨_, rfl⟩
    have HIN : Hid (∀ i (h : i < z0.length), ∃ y ∈ L, y.id = z0[i].1) := Lib.hid (by
      intro i hi
      obtain ⟨y, hy, e⟩ := putsT_has z0 i z0.length hi (Nat.le_refl _)
      rw [← hL] at hy
      exact ⟨y, hy, by rw [e]; simp [hi]⟩)
    have HNIL : Hid (z0.length = 0 → L = []) := Lib.hid (by intro e; rw [hL, e]; rfl)
    rw [← hp] at HT3
    have hp1 : p ≤ 150 := by omega
    have HOK := Lib.hid HT3.out.ok
    have hLp : L.length ≤ p := HOK.out.len
    clear hL hp h3 H2 HS2 hc1
    by_cases hz : z0.length = 0
    · obtain rfl := HNIL.out hz
      rw [hz]
      have t1 : ((0 : Int) == 0) = true := rfl
      go_wp2_with fail
      refine (tu_at0 w _ none t u [] [] p p _ HT3.out id HID.out (by simp)).mono ?_
      rintro e w4 ⟨rfl, rfl⟩
      go_wp2_with fail
      refine (tu_put w _ none t u [] [] p p _ HT3.out id due HID.out HDUE.out (by omega)).mono ?_
      rintro e w4 ⟨rfl, h4, _⟩
      have HT4 := Lib.hid h4
      clear h4 HT3
      go_wp2_with fail
      refine (tu_len1 w _ none t u _ _ _ _ _ HT4.out).mono ?_
      rintro e w5 ⟨rfl, rfl⟩
      go_wp2_with fail
      refine (tu_len2 w _ none t u _ _ _ _ _ HT4.out).mono ?_
      rintro e w5 ⟨rfl, rfl⟩
      have q1 : (putL ([] : List It) id due (p + 1)).length = 1 := rfl
      rw [q1]
      go_wp2_with fail
      refine (tu_drop w _ none t u _ _ _ _ _ HT4.out ⟨id, due, p + 1⟩ (by simp [putL]) (by omega)).mono ?_
      rintro e w5 ⟨rfl, h5⟩
      have HT5 : Hid (TU w w5 w4.heap.size none t u [] [] (p + 1) p) := Lib.hid (by
        have e := put_drop (L := []) (id := id) (due := due) (p := p + 1) (by simp)
        rw [show (It.mk id due (p + 1)).id = id from rfl, e] at h5
        exact h5)
      clear h5 HT4
      go_wp2_with fail
      refine (tu_len1 w _ none t u _ _ _ _ _ HT5.out).mono ?_
      rintro e w6 ⟨rfl, rfl⟩
      go_wp2_with fail
      refine (tu_len2 w _ none t u _ _ _ _ _ HT5.out).mono ?_
      rintro e w6 ⟨rfl, rfl⟩
      go_wp2_with fail
      refine (tu_drop0 w _ none t u [] [] _ p _ HT5.out id HID.out (by simp)).mono ?_
      rintro e w6 ⟨rfl, rfl⟩
      go_wp2
      go_ret
      exact ⟨rfl, HT5.out.chg.below (Nat.le_refl _) (by simp)⟩
    · obtain ⟨p1, hp1'⟩ : ∃ p1 : Nat, IntKind.u64.wrap which = p1 := ⟨(IntKind.u64.wrap which).toNat, by rw [IntKind.wrap_u64]; omega⟩
      obtain ⟨k, hk⟩ : ∃ k, k = p1 % z0.length := ⟨_, rfl⟩
      have hkl : k < z0.length := by rw [hk]; exact Nat.mod_lt _ (by omega)
      have hk1 : (p1 : Int) % (z0.length : Int) = (k : Int) := by rw [hk]; rfl
      have hk2 : (k : Int) < (z0.length : Int) := by omega
      have t1 : ((z0.length : Int) == 0) = false := by rw [beq_eq_false_iff_ne]; omega
      have t2 : (z0.length == 0) = false := by rw [beq_eq_false_iff_ne]; omega
      obtain ⟨y, hy, hyid⟩ := HIN.out k hkl
      obtain ⟨b, o, rfl, hb, c0, c1, i0', i1⟩ := HS.out.2 k hkl
      rw [← hyid] at c0 i0'
      have HY := Lib.hid hy
      have HYI := Lib.hid i0'
      have HYD := Lib.hid (HOK.out.dueI y hy)
      obtain ⟨dd, hdd⟩ : ∃ dd, dd = z0[k].2 := ⟨_, rfl⟩
      rw [← hdd] at c1
      clear hyid hk i0' i1 hy hdd
      obtain ⟨n, hn⟩ : ∃ n, n = z0.length := ⟨_, rfl⟩
      have hn1 : n ≤ 150 := by rw [hn]; exact hl
      have hn0 : 0 < n := by rw [hn]; exact Nat.pos_of_ne_zero hz
      rw [← hn] at hkl hk1 hk2 t1 t2 ⊢
      clear hn hz hl HNIL HIN hm0'
      have CC0 : Hid (w.cell? ⟨b, o + k * 2, none⟩ = some (.int .i64 y.id)) := Lib.hid c0
      have CC1 : Hid (w.cell? ⟨b, o + k * 2 + 1, none⟩ = some (.int .i64 dd)) := Lib.hid c1
      clear c0 c1
      have HX : Hid ((∃ x ∈ L, x.id = id) ∨ ∀ x ∈ L, x.id ≠ id) := Lib.hid (by
        by_cases e : ∃ x ∈ L, x.id = id
        · exact .inl e
        · exact .inr fun x hx h => e ⟨x, hx, h⟩)
      rcases HX.out with hx | hx
      · obtain ⟨x, hx, rfl⟩ := hx
        have HXL := Lib.hid hx
        clear hx HX
        go_wp2_with fail
        refine (tu_at w _ none t u L L p p _ HT3.out x HXL.out).mono ?_
        rintro e w4 ⟨rfl, rfl⟩
        have e0 := HT3.out.chg.cell CC0.out (by simp)
        have e1 := HT3.out.chg.cell CC1.out (by simp)
        go_wp2_with fail
        obtain ⟨q, hq⟩ : ∃ q, q = p := ⟨_, rfl⟩
        have hq1 : q ≤ 151 := by omega
        have HT3' : Hid (TU w w3 _ none t u L L q p) := Lib.hid (by rw [hq]; exact HT3.out)
        have HOKQ : Hid (OkL L q) := Lib.hid (by rw [hq]; exact HOK.out)
        clear hq HT3
        obtain ⟨px, hpx⟩ : ∃ px, px = w3.heap.size := ⟨_, rfl⟩
        rw [← hpx]
        obtain ⟨w7, hw7⟩ : ∃ w7, w7 = w3.alloc (.cells #[.int .i64 y.id, .int .i64 dd] 29) := ⟨_, rfl⟩
        rw [← hw7]
        have e7 : w7.cell? ⟨px, 0, none⟩ = some (.int .i64 y.id) := by rw [hw7, hpx]; exact cell_of (heap_new _ _)
        have HT7 : Hid (TU w w7 _ (some px) t u L L q p) := Lib.hid ((HT3'.out.same (by rw [hw7]; exact (Chg.refl _ _).alloc _)).mark (by rw [hpx]; exact HT3'.out.size) (by rw [hw7, hpx]; simp))
        clear hw7 hpx e0 e1 HT3' CC0 CC1 HXL
        refine (tu_at w _ _ t u L L q p _ HT7.out y HY.out).mono ?_
        rintro e w8 ⟨rfl, rfl⟩
        go_wp2_with fail
        refine (tu_put w _ _ t u L L q p _ HT7.out y.id y.due HYI.out HYD.out (by omega)).mono ?_
        rintro e w8 ⟨rfl, h8, k8⟩
        have HT8 := Lib.hid h8
        have e8 := k8 px rfl _ _ e7
        have hlen : (putL L y.id y.due (q + 1)).length = L.length := by
          unfold putL
          have := delL_len HY.out HOK.out.ids
          simp only [List.length_append, List.length_cons, List.length_nil]
          omega
        clear h8 k8 e7 HT7
        go_wp2_with fail
        refine (tu_len1 w _ _ t u _ _ _ _ _ HT8.out).mono ?_
        rintro e w9 ⟨rfl, rfl⟩
        go_wp2_with fail
        refine (tu_len2 w _ _ t u _ _ _ _ _ HT8.out).mono ?_
        rintro e w9 ⟨rfl, rfl⟩
        try rw [hlen]
        clear hlen
        have r4 : ((L.length : Int) != (L.length : Int)) = false := by simp
        go_wp2_with fail
        refine (tu_due1 w _ _ t u _ _ _ _ _ HT8.out y.due (by omega)).mono ?_
        rintro e w9 ⟨a9, c9, rfl, o9, h9, r9, k9⟩
        have e9 := k9 px rfl _ _ e8
        obtain ⟨m, hm⟩ : ∃ m, m = ((dueL L y.due).filter fun i => decide (i ≠ y.id)).length := ⟨_, rfl⟩
        have hla := due_again (p := q) (x := y) (L := L) (HOKQ.out) HY.out
        have hlb : (dueL L y.due).length = m + 1 := by rw [hm]; exact (due_len HOK.out HY.out).symm
        have hlaN : (dueL (putL L y.id y.due (q + 1)) y.due).length = m + 1 := by rw [hla, List.length_append, hm]; rfl
        have O9 := Lib.hid o9
        have HT9 := Lib.hid h9
        have HLA := Lib.hid hla
        have HLB := Lib.hid hlb
        have HLN := Lib.hid hlaN
        have HM := Lib.hid hm
        have hm1 : m ≤ 1000 := by have := dueL_len_le L y.due; omega
        rw [HLN.out] at O9 ⊢
        clear o9 h9 k9 hm hla hlb hlaN e8 HT8 r4
        go_wp2_with fail
        refine (tu_due2 w _ _ t u _ _ _ _ _ HT9.out y.due (by omega)).mono ?_
        rw [HLB.out]
        rintro e w10 ⟨a10, c10, rfl, o10, h10, r10, k10⟩
        have e10 := k10 px rfl _ _ e9
        have O9' := Lib.hid (r10 _ _ O9.out)
        have hcap9 : m + 1 ≤ c9 := by
          obtain ⟨_, hh⟩ := O9'.out
          rcases hh with ⟨hv, _⟩ | ⟨g, cap, cur, hv, _, _, hh1, _⟩
          · cases hv
          · injection hv with _ _ hv3
            rw [HLN.out] at hh1
            omega
        have hr9 : RowZ .i64 w10 (.slice a9 (dueL (putL L y.id y.due (q + 1)) y.due).length c9) (dueL (putL L y.id y.due (q + 1)) y.due) := by rw [HLN.out]; exact O9'.out.row
        have hr10 : RowZ .i64 w10 (.slice a10 (dueL L y.due).length c10) (dueL L y.due) := by rw [HLB.out]; exact o10.row
        obtain ⟨lb, hlb⟩ : ∃ lb, lb = dueL L y.due := ⟨_, rfl⟩
        obtain ⟨g10, rfl, q10⟩ := hr10.at (by rw [HLB.out]; omega)
        have q9 := hr9.at (by rw [HLN.out]; omega)
        obtain ⟨g9, rfl, q9⟩ := q9
        have q9' : w10.cell? ⟨g9, m, none⟩ = some (.int .i64 y.id) := by
          have := q9 m (by rw [HLN.out]; omega)
          simp only [HLA.out] at this
          rw [List.getElem_append_right (by rw [← HM.out]; exact Nat.le_refl _)] at this
          rw [this]
          simp
        have HRA : Hid (RowZ .i64 w10 (.slice (some ⟨g9, 0, none⟩) m c9) (lb.filter fun i => decide (i ≠ y.id))) := Lib.hid (by
          have := hr9.cut HLA.out
          rw [← HM.out, ← hlb] at this
          exact this)
        have HQ10 : Hid (∀ i (h : i < lb.length), w10.cell? ⟨g10, i, none⟩ = some (.int .i64 lb[i])) := Lib.hid (by rw [hlb]; exact q10)
        have HLB' : Hid (lb.length = m + 1) := Lib.hid (by rw [hlb]; exact HLB.out)
        have HMM : Hid ((lb.filter fun i => decide (i ≠ y.id)).length = m) := Lib.hid (by rw [hlb]; exact HM.out.symm)
        have HT10 : Hid (TU w w10 _ (some px) t u (restL L y.due) (restL L y.due) (q + 1) p) := Lib.hid (by
          rw [rest_again, rest_del HOK.out HY.out] at h10
          exact h10)
        clear o10 h10 r10 k10 r9 O9 O9' HT9 HLA HLB HLN HM q9 q10 hr9 hr10 e9
        have s1 : (((m : Int) + 1) == 0) = false := by simp; omega
        have s2 : (((m : Int) + 1) != ((m : Int) + 1)) = false := by simp
        have s3 : (y.id != y.id) = false := by simp
        obtain ⟨B10, hB10⟩ : ∃ B, B = w10.heap.size := ⟨_, rfl⟩
        clear hlb
        go_wp2_with fail
        go_quiet (fail)
        go_wp2_with fail
        go_loopw [18, 19] (AnewR w10 lb y.id) (fun _ v _ => lb.length - (intOf v).toNat)
        case atStart => exact ⟨0, by omega, rfl, OwnZ.nil _ _, by first | exact Chg.refl _ _ | exact (Chg.refl _ _).drewN _⟩
        case round =>
          obtain ⟨i, hi, rfl, hown, hC⟩ := hrel
          have ex := hC.cell e10 (by simp)
          have HO := Lib.hid hown
          have HC := Lib.hid hC
          obtain ⟨l, hlq⟩ : ∃ l, l = (lb.take i).filter fun y_1 => decide (y_1 ≠ y.id) := ⟨_, rfl⟩
          have HLQ := Lib.hid hlq
          rw [← hlq] at HO hown
          have hll : l.length ≤ 1000000 := by
            rw [hlq]
            refine Nat.le_trans (List.length_filter_le _ _) ?_
            rw [List.length_take]
            have := HLB'.out
            omega
          obtain ⟨av, cv, hv⟩ := owns_len hown
          rw [hv] at HO ⊢
          clear hown hC hlq hv
          by_cases hlt : i < m + 1
          · have hiL : i < lb.length := by rw [HLB'.out]; exact hlt
            have cb := HC.out.cell (HQ10.out i hiL) (by simp)
            have b1 : (i : Int) < (m : Int) + 1 := by omega
            obtain ⟨bi, hbi⟩ : ∃ bi, bi = lb[i] := ⟨_, rfl⟩
            rw [← hbi] at cb
            have htake : lb.take (i + 1) = lb.take i ++ [bi] := by rw [hbi, List.take_add_one, List.getElem?_eq_getElem hiL]; rfl
            by_cases hne : bi = y.id
            · have u1 : (bi != y.id) = false := by simp [hne]
              have HREL : Hid ((lb.take (i + 1)).filter (fun y_1 => decide (y_1 ≠ y.id)) = l) := Lib.hid (by rw [htake, List.filter_append, HLQ.out, hne]; simp)
              clear hbi htake hne hiL
              go_wp2_with fail
              go_quiet (fail)
              go_wp2
              go_roundw
              case rel =>
                refine ⟨i + 1, by have := HLB'.out; omega, by go_num, ?_, HC.out.drewN _⟩
                rw [HREL.out]
                exact OwnZ.chg HO.out ((Chg.refl [] _).drewN _) (by simp)
              case measure => have := HLB'.out; simp [intOf]; omega
            · have u1 : (bi != y.id) = true := by simp [hne]
              have HREL : Hid ((lb.take (i + 1)).filter (fun y_1 => decide (y_1 ≠ y.id)) = l ++ [bi]) := Lib.hid (by rw [htake, List.filter_append, HLQ.out]; simp [hne])
              have HBI := Lib.hid hbi
              have HHT := Lib.hid htake
              clear hbi htake hne
              go_wp2_with fail
              go_quiet (fail)
              generalize hw20 : wr.drewN nq = w20
              have HC20 : Hid (Chg [] w10 w20) := Lib.hid (by rw [← hw20]; exact HC.out.drewN _)
              have HO20 : Hid (OwnZ w10.heap.size w20 (.slice av l.length cv) l) := Lib.hid (by rw [← hw20]; exact OwnZ.chg HO.out ((Chg.refl [] _).drewN _) (by simp))
              have cb20 := HC20.out.cell (HQ10.out i hiL) (by simp)
              rw [← HBI.out] at cb20
              have hsz := HC20.out.size
              clear hw20 cb ex HC HO
              have HO2 : Hid (w20.ownsRow w10.heap.size 3 1 (.slice av l.length cv) l.length (l.map fun x => Value.int .i64 x)) := Lib.hid HO20.out
              clear HBI HHT hiL HO20
              go_wp2_with (at_builtin; go_must (refine wpList_append_own _ rfl _ _ 26 rfl w10.heap.size 3 i0 (.int .i64 0) 1 8 Try.underlying26 hi0 hz0 hz1 hz2 rfl (by decide) (.slice av l.length cv) l.length _ rfl (HO2.out.alloc _) ⟨w20.heap.size, 0, none⟩ 1 1 [.int .i64 bi] rfl rfl (cell_one_new _ _ _) (by simp [Value.oneCell']) (by unfold maxLen; omega) (by omega) (by simp; omega) ?_); go_must (intro v1 w11 hown1 hg1 _))
              have HC3 : Chg [] w10 w11 := (HC20.out.alloc _).grown hg1 (fun k hk => by rcases owns_block HO2.out k hk with e | e; simp at e; exact .inr e)
              go_roundw
              case rel =>
                refine ⟨i + 1, by have := HLB'.out; omega, by go_num, ?_, HC3⟩
                rw [HREL.out]
                exact OwnZ.snoc hown1
              case measure => have := HLB'.out; simp [intOf]; omega
          · have hiE : i = m + 1 := by have := HLB'.out; omega
            subst hiE
            have HLE : Hid (l = lb.filter fun i => decide (i ≠ y.id)) := Lib.hid (by rw [HLQ.out, List.take_of_length_le (by have := HLB'.out; omega)])
            have HR2 : Hid (RowZ .i64 wr (.slice av l.length cv) l) := Lib.hid HO.out.row
            have HRA2 := Lib.hid (HRA.out.chg HC.out)
            have HTr := Lib.hid (HT10.out.same HC.out)
            have hlm : l.length ≤ 1000000 := by rw [HLE.out, HMM.out]; omega
            have hlm2 : (lb.filter fun i => decide (i ≠ y.id)).length ≤ 1000000 := by rw [HMM.out]; omega
            clear hlt HO HLQ HQ10 HRA HT10 HC
            go_wp2_with fail
            refine (intsz_c _ _ _ _ true (Lib.hid (by rw [HLE.out]; simp)) _ HRA2.out HR2.out hlm2 hlm).mono ?_
            rintro e w12 ⟨rfl, hc12⟩
            have HT12 := Lib.hid (HTr.out.same hc12)
            clear hc12 HTr HRA2 HR2 HLE
            go_wp2_with fail
            refine (tu_due1 w _ _ t u _ _ _ _ _ HT12.out 9223372036854775807 (by omega)).mono ?_
            rintro e w13 ⟨a13, c13, rfl, o13, h13, r13, _⟩
            have O13 := Lib.hid o13
            have HT13 := Lib.hid h13
            clear o13 h13 r13 HT12
            go_wp2_with fail
            refine (tu_due2 w _ _ t u _ _ _ _ _ HT13.out 9223372036854775807 (by omega)).mono ?_
            rintro e w14 ⟨a14, c14, rfl, o14, h14, r14, _⟩
            have R13 := Lib.hid (r14 _ _ O13.out).row
            have R14 := Lib.hid o14.row
            have HC14 := Lib.hid h14.chg
            have hln : (dueL (restL L y.due) 9223372036854775807).length ≤ 1000000 := Nat.le_trans (dueL_len_le _ _) (Nat.le_trans (List.length_filter_le _ _) (by omega))
            clear o14 h14 r14 O13 HT13
            go_wp2_with fail
            refine (intsz_c _ _ _ _ true (Lib.hid (by simp)) _ R13.out R14.out hln hln).mono ?_
            rintro e w15 ⟨rfl, hc15⟩
            have HB : Hid (Below w.heap.size w w15) := Lib.hid ((HC14.out.trans hc15).below (Nat.le_refl _) (by simp))
            clear hc15 R13 R14 HC14
            go_wp2
            go_ret
            exact ⟨rfl, HB.out⟩
      · have HXL := Lib.hid hx
        clear hx HX
        go_wp2_with fail
        refine (tu_at0 w _ none t u L L p p _ HT3.out id HID.out HXL.out).mono ?_
        rintro e w4 ⟨rfl, rfl⟩
        go_wp2_with fail
        refine (tu_put w _ none t u L L p p _ HT3.out id due HID.out HDUE.out (by omega)).mono ?_
        rintro e w4 ⟨rfl, h4, _⟩
        have HT4 := Lib.hid h4
        clear h4 HT3
        go_wp2_with fail
        refine (tu_len1 w _ none t u _ _ _ _ _ HT4.out).mono ?_
        rintro e w5 ⟨rfl, rfl⟩
        go_wp2_with fail
        refine (tu_len2 w _ none t u _ _ _ _ _ HT4.out).mono ?_
        rintro e w5 ⟨rfl, rfl⟩
        have q1 : (putL L id due (p + 1)).length = L.length + 1 := by
          unfold putL
          rw [delL_absent HXL.out]; simp
        rw [q1]
        have q2 : (((L.length + 1 : Nat) : Int) != (L.length : Int) + 1) = false := by simp
        have q3 : ((L.length : Int) + 1 != (L.length : Int) + 1) = false := by simp
        go_wp2_with fail
        refine (tu_drop w _ none t u _ _ _ _ _ HT4.out ⟨id, due, p + 1⟩ (by simp [putL]) (by omega)).mono ?_
        rintro e w5 ⟨rfl, h5⟩
        have HT5 : Hid (TU w w5 w4.heap.size none t u L L (p + 1) p) := Lib.hid (by
          have e := put_drop (L := L) (id := id) (due := due) (p := p + 1) HXL.out
          rw [show (It.mk id due (p + 1)).id = id from rfl, e] at h5
          exact h5)
        clear h5 HT4 q1 q2 q3
        go_wp2_with fail
        refine (tu_len1 w _ none t u _ _ _ _ _ HT5.out).mono ?_
        rintro e w6 ⟨rfl, rfl⟩
        go_wp2_with fail
        refine (tu_len2 w _ none t u _ _ _ _ _ HT5.out).mono ?_
        rintro e w6 ⟨rfl, rfl⟩
        have q4 : ((L.length : Int) != (L.length : Int)) = false := by simp
        go_wp2_with fail
        refine (tu_drop0 w _ none t u L L _ p _ HT5.out id HID.out HXL.out).mono ?_
        rintro e w6 ⟨rfl, rfl⟩
        have e0 := HT5.out.chg.cell CC0.out (by simp)
        have e1 := HT5.out.chg.cell CC1.out (by simp)
        go_wp2_with fail
        obtain ⟨q, hq⟩ : ∃ q, q = p + 1 := ⟨_, rfl⟩
        have hq1 : q ≤ 151 := by omega
        have HT5' : Hid (TU w w5 _ none t u L L q p) := Lib.hid (by rw [hq]; exact HT5.out)
        have HOKQ : Hid (OkL L q) := Lib.hid HT5'.out.ok
        clear hq HT5 q4
        obtain ⟨px, hpx⟩ : ∃ px, px = w5.heap.size := ⟨_, rfl⟩
        rw [← hpx]
        obtain ⟨w7, hw7⟩ : ∃ w7, w7 = w5.alloc (.cells #[.int .i64 y.id, .int .i64 dd] 29) := ⟨_, rfl⟩
        rw [← hw7]
        have e7 : w7.cell? ⟨px, 0, none⟩ = some (.int .i64 y.id) := by rw [hw7, hpx]; exact cell_of (heap_new _ _)
        have HT7 : Hid (TU w w7 _ (some px) t u L L q p) := Lib.hid ((HT5'.out.same (by rw [hw7]; exact (Chg.refl _ _).alloc _)).mark (by rw [hpx]; exact HT5'.out.size) (by rw [hw7, hpx]; simp))
        clear hw7 hpx e0 e1 HT5' CC0 CC1 HXL
        refine (tu_at w _ _ t u L L q p _ HT7.out y HY.out).mono ?_
        rintro e w8 ⟨rfl, rfl⟩
        go_wp2_with fail
        refine (tu_put w _ _ t u L L q p _ HT7.out y.id y.due HYI.out HYD.out (by omega)).mono ?_
        rintro e w8 ⟨rfl, h8, k8⟩
        have HT8 := Lib.hid h8
        have e8 := k8 px rfl _ _ e7
        have hlen : (putL L y.id y.due (q + 1)).length = L.length := by
          unfold putL
          have := delL_len HY.out HOK.out.ids
          simp only [List.length_append, List.length_cons, List.length_nil]
          omega
        clear h8 k8 e7 HT7
        go_wp2_with fail
        refine (tu_len1 w _ _ t u _ _ _ _ _ HT8.out).mono ?_
        rintro e w9 ⟨rfl, rfl⟩
        go_wp2_with fail
        refine (tu_len2 w _ _ t u _ _ _ _ _ HT8.out).mono ?_
        rintro e w9 ⟨rfl, rfl⟩
        try rw [hlen]
        clear hlen
        have r4 : ((L.length : Int) != (L.length : Int)) = false := by simp
        go_wp2_with fail
        refine (tu_due1 w _ _ t u _ _ _ _ _ HT8.out y.due (by omega)).mono ?_
        rintro e w9 ⟨a9, c9, rfl, o9, h9, r9, k9⟩
        have e9 := k9 px rfl _ _ e8
        obtain ⟨m, hm⟩ : ∃ m, m = ((dueL L y.due).filter fun i => decide (i ≠ y.id)).length := ⟨_, rfl⟩
        have hla := due_again (p := q) (x := y) (L := L) (HOKQ.out) HY.out
        have hlb : (dueL L y.due).length = m + 1 := by rw [hm]; exact (due_len HOK.out HY.out).symm
        have hlaN : (dueL (putL L y.id y.due (q + 1)) y.due).length = m + 1 := by rw [hla, List.length_append, hm]; rfl
        have O9 := Lib.hid o9
        have HT9 := Lib.hid h9
        have HLA := Lib.hid hla
        have HLB := Lib.hid hlb
        have HLN := Lib.hid hlaN
        have HM := Lib.hid hm
        have hm1 : m ≤ 1000 := by have := dueL_len_le L y.due; omega
        rw [HLN.out] at O9 ⊢
        clear o9 h9 k9 hm hla hlb hlaN e8 HT8 r4
        go_wp2_with fail
        refine (tu_due2 w _ _ t u _ _ _ _ _ HT9.out y.due (by omega)).mono ?_
        rw [HLB.out]
        rintro e w10 ⟨a10, c10, rfl, o10, h10, r10, k10⟩
        have e10 := k10 px rfl _ _ e9
        have O9' := Lib.hid (r10 _ _ O9.out)
        have hcap9 : m + 1 ≤ c9 := by
          obtain ⟨_, hh⟩ := O9'.out
          rcases hh with ⟨hv, _⟩ | ⟨g, cap, cur, hv, _, _, hh1, _⟩
          · cases hv
          · injection hv with _ _ hv3
            rw [HLN.out] at hh1
            omega
        have hr9 : RowZ .i64 w10 (.slice a9 (dueL (putL L y.id y.due (q + 1)) y.due).length c9) (dueL (putL L y.id y.due (q + 1)) y.due) := by rw [HLN.out]; exact O9'.out.row
        have hr10 : RowZ .i64 w10 (.slice a10 (dueL L y.due).length c10) (dueL L y.due) := by rw [HLB.out]; exact o10.row
        obtain ⟨lb, hlb⟩ : ∃ lb, lb = dueL L y.due := ⟨_, rfl⟩
        obtain ⟨g10, rfl, q10⟩ := hr10.at (by rw [HLB.out]; omega)
        have q9 := hr9.at (by rw [HLN.out]; omega)
        obtain ⟨g9, rfl, q9⟩ := q9
        have q9' : w10.cell? ⟨g9, m, none⟩ = some (.int .i64 y.id) := by
          have := q9 m (by rw [HLN.out]; omega)
          simp only [HLA.out] at this
          rw [List.getElem_append_right (by rw [← HM.out]; exact Nat.le_refl _)] at this
          rw [this]
          simp
        have HRA : Hid (RowZ .i64 w10 (.slice (some ⟨g9, 0, none⟩) m c9) (lb.filter fun i => decide (i ≠ y.id))) := Lib.hid (by
          have := hr9.cut HLA.out
          rw [← HM.out, ← hlb] at this
          exact this)
        have HQ10 : Hid (∀ i (h : i < lb.length), w10.cell? ⟨g10, i, none⟩ = some (.int .i64 lb[i])) := Lib.hid (by rw [hlb]; exact q10)
        have HLB' : Hid (lb.length = m + 1) := Lib.hid (by rw [hlb]; exact HLB.out)
        have HMM : Hid ((lb.filter fun i => decide (i ≠ y.id)).length = m) := Lib.hid (by rw [hlb]; exact HM.out.symm)
        have HT10 : Hid (TU w w10 _ (some px) t u (restL L y.due) (restL L y.due) (q + 1) p) := Lib.hid (by
          rw [rest_again, rest_del HOK.out HY.out] at h10
          exact h10)
        clear o10 h10 r10 k10 r9 O9 O9' HT9 HLA HLB HLN HM q9 q10 hr9 hr10 e9
        have s1 : (((m : Int) + 1) == 0) = false := by simp; omega
        have s2 : (((m : Int) + 1) != ((m : Int) + 1)) = false := by simp
        have s3 : (y.id != y.id) = false := by simp
        obtain ⟨B10, hB10⟩ : ∃ B, B = w10.heap.size := ⟨_, rfl⟩
        clear hlb
        go_wp2_with fail
        go_quiet (fail)
        go_wp2_with fail
        go_loopw [18, 19] (AnewR w10 lb y.id) (fun _ v _ => lb.length - (intOf v).toNat)
        case atStart => exact ⟨0, by omega, rfl, OwnZ.nil _ _, by first | exact Chg.refl _ _ | exact (Chg.refl _ _).drewN _⟩
        case round =>
          obtain ⟨i, hi, rfl, hown, hC⟩ := hrel
          have ex := hC.cell e10 (by simp)
          have HO := Lib.hid hown
          have HC := Lib.hid hC
          obtain ⟨l, hlq⟩ : ∃ l, l = (lb.take i).filter fun y_1 => decide (y_1 ≠ y.id) := ⟨_, rfl⟩
          have HLQ := Lib.hid hlq
          rw [← hlq] at HO hown
          have hll : l.length ≤ 1000000 := by
            rw [hlq]
            refine Nat.le_trans (List.length_filter_le _ _) ?_
            rw [List.length_take]
            have := HLB'.out
            omega
          obtain ⟨av, cv, hv⟩ := owns_len hown
          rw [hv] at HO ⊢
          clear hown hC hlq hv
          by_cases hlt : i < m + 1
          · have hiL : i < lb.length := by rw [HLB'.out]; exact hlt
            have cb := HC.out.cell (HQ10.out i hiL) (by simp)
            have b1 : (i : Int) < (m : Int) + 1 := by omega
            obtain ⟨bi, hbi⟩ : ∃ bi, bi = lb[i] := ⟨_, rfl⟩
            rw [← hbi] at cb
            have htake : lb.take (i + 1) = lb.take i ++ [bi] := by rw [hbi, List.take_add_one, List.getElem?_eq_getElem hiL]; rfl
            by_cases hne : bi = y.id
            · have u1 : (bi != y.id) = false := by simp [hne]
              have HREL : Hid ((lb.take (i + 1)).filter (fun y_1 => decide (y_1 ≠ y.id)) = l) := Lib.hid (by rw [htake, List.filter_append, HLQ.out, hne]; simp)
              clear hbi htake hne hiL
              go_wp2_with fail
              go_quiet (fail)
              go_wp2
              go_roundw
              case rel =>
                refine ⟨i + 1, by have := HLB'.out; omega, by go_num, ?_, HC.out.drewN _⟩
                rw [HREL.out]
                exact OwnZ.chg HO.out ((Chg.refl [] _).drewN _) (by simp)
              case measure => have := HLB'.out; simp [intOf]; omega
            · have u1 : (bi != y.id) = true := by simp [hne]
              have HREL : Hid ((lb.take (i + 1)).filter (fun y_1 => decide (y_1 ≠ y.id)) = l ++ [bi]) := Lib.hid (by rw [htake, List.filter_append, HLQ.out]; simp [hne])
              have HBI := Lib.hid hbi
              have HHT := Lib.hid htake
              clear hbi htake hne
              go_wp2_with fail
              go_quiet (fail)
              generalize hw20 : wr.drewN nq = w20
              have HC20 : Hid (Chg [] w10 w20) := Lib.hid (by rw [← hw20]; exact HC.out.drewN _)
              have HO20 : Hid (OwnZ w10.heap.size w20 (.slice av l.length cv) l) := Lib.hid (by rw [← hw20]; exact OwnZ.chg HO.out ((Chg.refl [] _).drewN _) (by simp))
              have cb20 := HC20.out.cell (HQ10.out i hiL) (by simp)
              rw [← HBI.out] at cb20
              have hsz := HC20.out.size
              clear hw20 cb ex HC HO
              have HO2 : Hid (w20.ownsRow w10.heap.size 3 1 (.slice av l.length cv) l.length (l.map fun x => Value.int .i64 x)) := Lib.hid HO20.out
              clear HBI HHT hiL HO20
              go_wp2_with (at_builtin; go_must (refine wpList_append_own _ rfl _ _ 26 rfl w10.heap.size 3 i0 (.int .i64 0) 1 8 Try.underlying26 hi0 hz0 hz1 hz2 rfl (by decide) (.slice av l.length cv) l.length _ rfl (HO2.out.alloc _) ⟨w20.heap.size, 0, none⟩ 1 1 [.int .i64 bi] rfl rfl (cell_one_new _ _ _) (by simp [Value.oneCell']) (by unfold maxLen; omega) (by omega) (by simp; omega) ?_); go_must (intro v1 w11 hown1 hg1 _))
              have HC3 : Chg [] w10 w11 := (HC20.out.alloc _).grown hg1 (fun k hk => by rcases owns_block HO2.out k hk with e | e; simp at e; exact .inr e)
              go_roundw
              case rel =>
                refine ⟨i + 1, by have := HLB'.out; omega, by go_num, ?_, HC3⟩
                rw [HREL.out]
                exact OwnZ.snoc hown1
              case measure => have := HLB'.out; simp [intOf]; omega
          · have hiE : i = m + 1 := by have := HLB'.out; omega
            subst hiE
            have HLE : Hid (l = lb.filter fun i => decide (i ≠ y.id)) := Lib.hid (by rw [HLQ.out, List.take_of_length_le (by have := HLB'.out; omega)])
            have HR2 : Hid (RowZ .i64 wr (.slice av l.length cv) l) := Lib.hid HO.out.row
            have HRA2 := Lib.hid (HRA.out.chg HC.out)
            have HTr := Lib.hid (HT10.out.same HC.out)
            have hlm : l.length ≤ 1000000 := by rw [HLE.out, HMM.out]; omega
            have hlm2 : (lb.filter fun i => decide (i ≠ y.id)).length ≤ 1000000 := by rw [HMM.out]; omega
            clear hlt HO HLQ HQ10 HRA HT10 HC
            go_wp2_with fail
            refine (intsz_c _ _ _ _ true (Lib.hid (by rw [HLE.out]; simp)) _ HRA2.out HR2.out hlm2 hlm).mono ?_
            rintro e w12 ⟨rfl, hc12⟩
            have HT12 := Lib.hid (HTr.out.same hc12)
            clear hc12 HTr HRA2 HR2 HLE
            go_wp2_with fail
            refine (tu_due1 w _ _ t u _ _ _ _ _ HT12.out 9223372036854775807 (by omega)).mono ?_
            rintro e w13 ⟨a13, c13, rfl, o13, h13, r13, _⟩
            have O13 := Lib.hid o13
            have HT13 := Lib.hid h13
            clear o13 h13 r13 HT12
            go_wp2_with fail
            refine (tu_due2 w _ _ t u _ _ _ _ _ HT13.out 9223372036854775807 (by omega)).mono ?_
            rintro e w14 ⟨a14, c14, rfl, o14, h14, r14, _⟩
            have R13 := Lib.hid (r14 _ _ O13.out).row
            have R14 := Lib.hid o14.row
            have HC14 := Lib.hid h14.chg
            have hln : (dueL (restL L y.due) 9223372036854775807).length ≤ 1000000 := Nat.le_trans (dueL_len_le _ _) (Nat.le_trans (List.length_filter_le _ _) (by omega))
            clear o14 h14 r14 O13 HT13
            go_wp2_with fail
            refine (intsz_c _ _ _ _ true (Lib.hid (by simp)) _ R13.out R14.out hln hln).mono ?_
            rintro e w15 ⟨rfl, hc15⟩
            have HB : Hid (Below w.heap.size w w15) := Lib.hid ((HC14.out.trans hc15).below (Nat.le_refl _) (by simp))
            clear hc15 R13 R14 HC14
            go_wp2
            go_ret
            exact ⟨rfl, HB.out⟩
  · have d1 : decide ((150 : Int) < (z0.length : Int)) = true := by simp; omega
    have d3 : decide (150 < z0.length) = true := by simp; omega
    go_enter Try.func5, Try.ntmps5
    go_wp2_with fail
    refine (awake_any w).mono ?_
    rintro e w1 ⟨rfl, hc1⟩
    go_wp2
    go_ret
    exact ⟨rfl, hc1.below (Nat.le_refl _) (by simp)⟩

end Go.Proofs.Ytlkhaookdmgbnaa
