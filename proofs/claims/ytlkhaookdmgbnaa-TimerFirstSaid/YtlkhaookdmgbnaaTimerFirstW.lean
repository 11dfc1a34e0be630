/- The walk of TimerFirst. -/
import Derived.Test.YtlkhaookdmgbnaaTimerApartW
namespace Go.Proofs.Ytlkhaookdmgbnaa
open Go.RowKit

theorem copy_t (w0 : World) (tb : Nat) (L : List It) (p : Nat) (w : World) (h : TB w0 w tb L p) (hp : p ≤ 1000000) :
    Calls Try.prog 19 #[.pointer (some ⟨tb, 0, none⟩)] w fun e w' => ∃ cb, e = .returned (.pointer (some ⟨cb, 0, none⟩)) ∧ TB w w' cb L p ∧ TB w0 w' tb L p := by
  obtain ⟨F, h1, h2, h3, h4⟩ := h
  refine (copy_any tb F L p w h1 hp).mono ?_
  rintro e w' ⟨cb, rfl, hT⟩
  exact ⟨cb, rfl, hT, TB.same (w := w) ⟨F, h1, h2, h3, h4⟩ hT.chg⟩
theorem drop_t (w0 : World) (tb : Nat) (L : List It) (p : Nat) (x : It) (w : World) (h : TB w0 w tb L p) (hx : x ∈ L) (hp : p ≤ 1000000) :
    Calls Try.prog 18 #[.pointer (some ⟨tb, 0, none⟩), .int .i64 x.id] w fun e w' => e = .returned (.bool true) ∧ TB w0 w' tb (delL L x.id) p := by
  obtain ⟨F, h1, h2, h3, h4⟩ := h
  refine (drop_some tb F L p x w h1 hx hp).mono ?_
  rintro e w' ⟨rfl, k1, k2⟩
  refine ⟨rfl, F, k1, h2, h3, h4.trans_new k2 ?_⟩
  intro y hy
  rcases List.mem_cons.1 hy with e | e
  · right; omega
  · exact .inr (h2 y e)
theorem TB.ok {w0 w : World} {tb p : Nat} {L : List It} (h : TB w0 w tb L p) : OkL L p := by obtain ⟨F, h, _⟩ := h; exact h.ok
theorem nexts_t (w0 : World) (tb : Nat) (L : List It) (p : Nat) (w : World) (h : TB w0 w tb L p) (hL : 0 < L.length) :
    ∃ x, isMin x L ∧ Calls Try.prog 25 #[.pointer (some ⟨tb, 0, none⟩)] w fun e w' => e = .returned (.tuple #[.int .i64 x.id, .int .i64 x.due, .bool true]) ∧ TB w0 w' tb L p := by
  obtain ⟨F, h1, h2⟩ := h
  obtain ⟨x, hx, hc⟩ := next_some tb F L p w h1 hL
  refine ⟨x, hx, hc.mono ?_⟩
  rintro e w' ⟨rfl, n, rfl⟩
  exact ⟨rfl, TB.same (w := w) ⟨F, h1, h2⟩ ((Chg.refl [] w).drewN n)⟩
/-- At, whatever is there: nothing is due sooner than the first one. -/
theorem at_t (w0 : World) (tb : Nat) (L : List It) (p : Nat) (id : Int) (x : It) (w : World) (h : TB w0 w tb L p) (hi : InI id) (hx : isMin x L) :
    Calls Try.prog 16 #[.pointer (some ⟨tb, 0, none⟩), .int .i64 id] w fun e w' => ∃ d B, e = .returned (.tuple #[.int .i64 d, .bool B]) ∧ (B = true → x.due ≤ d) ∧ w = w' := by
  obtain ⟨F, h1, _⟩ := h
  by_cases hy : ∃ y ∈ L, y.id = id
  · obtain ⟨y, hy, rfl⟩ := hy
    refine (at_some tb F L p y w h1 hy).mono ?_
    rintro e w' ⟨rfl, rfl⟩
    refine ⟨y.due, true, rfl, fun _ => ?_, rfl⟩
    have := hx.2 y hy
    rw [leI_iff] at this
    omega
  · refine (at_none tb F L p id w h1 hi fun y hyL e => hy ⟨y, hyL, e⟩).mono ?_
    rintro e w' ⟨rfl, rfl⟩
    exact ⟨0, false, rfl, (fun h => by cases h), rfl⟩

set_option maxRecDepth 100000 in
set_option maxHeartbeats 8000000 in
theorem timerFirst_walk (a0 : Option Addr) (cap0 : Nat) (z0 : List (Int × Int)) (w : World) (w0 : IsSets w a0 z0) :
    Calls Try.prog 9 #[.slice a0 z0.length cap0] w fun e w' => e = .returned (.bool true) ∧ Below w.heap.size w w' := by
  have HS := Lib.hid w0
  have hm0 := w0.1
  have hm0' : z0.length ≤ 9223372036854775807 := by simp only [maxLen] at hm0; omega
  clear w0 hm0
  by_cases hl : z0.length ≤ 150
  · have d1 : decide ((150 : Int) < (z0.length : Int)) = false := by simp; omega
    have d3 : decide (150 < z0.length) = false := by simp; omega
    go_enter Try.func9, Try.ntmps9
    go_wp2_with fail
    refine (awake_any w).mono ?_
    rintro e w1 ⟨rfl, hc1⟩
    clear d1 d3
    go_wp2_with fail
    refine (put_sets a0 cap0 z0 _ (HS.out.same hc1) (by omega)).mono ?_
    rintro e w2 ⟨t, rfl, F, f1, f2, f3, f4⟩
    have hs1 := hc1.size
    have H2 : Hid (TB w w2 t (putsT z0 z0.length) z0.length) := Lib.hid ⟨F, f1, fun y hy => by have := f2 y hy; omega, by omega, hc1.trans f4⟩
    obtain ⟨L, hL⟩ : ∃ L, L = putsT z0 z0.length := ⟨_, rfl⟩
    rw [← hL] at H2
    obtain ⟨p, hp⟩ : ∃ p, p = z0.length := ⟨_, rfl⟩
    rw [← hp] at H2
    have hp1 : p ≤ 150 := by omega
    clear hL hp f1 f2 f3 f4 hc1 hs1
    go_wp2_with fail
    refine (len_t w t L p _ H2.out).mono ?_
    rintro e w3 ⟨rfl, rfl⟩
    go_wp2_with fail
    go_loopw [4] (fun v wr => ∃ M, v = .int .i64 (M.length : Nat) ∧ TB w wr t M p) (fun v _ => (intOf v).toNat)
    case atStart => exact ⟨L, rfl, H2.out⟩
    case round =>
      clear H2
      obtain ⟨M, rfl, hT⟩ := hrel
      have hMp : M.length ≤ p := hT.ok.len
      by_cases hM : 0 < M.length
      · obtain ⟨x, hmin, hnext⟩ := nexts_t w t M p _ hT hM
        have HMIN := Lib.hid hmin
        have HOK := Lib.hid hT.ok
        obtain ⟨m, hm⟩ : ∃ m, m = M.length := ⟨_, rfl⟩
        rw [← hm] at hMp hM ⊢
        have HM := Lib.hid hm
        have b0 : (0 : Int) < (m : Int) := by omega
        clear hm hT hmin
        go_wp2_with fail
        refine hnext.mono ?_
        rintro e w3 ⟨rfl, h3⟩
        have H3 := Lib.hid h3
        clear h3 hnext
        go_wp2_with fail
        go_loopw [8] (fun v wr => ∃ i, i ≤ z0.length ∧ v = .int .i64 (i : Nat) ∧ wr = w3) (fun v _ => z0.length - (intOf v).toNat)
        case atStart => exact ⟨0, by omega, rfl, rfl⟩
        case round =>
          obtain ⟨i, hi, rfl, rfl⟩ := hrel
          by_cases hlt : i < z0.length
          · obtain ⟨b, o, rfl, hb, c0, c1, i0, i1⟩ := HS.out.2 i hlt
            have c0' := H3.out.chg.cell c0 (by simp)
            have b1 : (i : Int) < (z0.length : Int) := by omega
            obtain ⟨id, hid⟩ : ∃ id, id = z0[i].1 := ⟨_, rfl⟩
            rw [← hid] at c0' i0
            clear hid c0 c1 i1
            go_wp2_with fail
            refine (at_t w t M p id x _ H3.out i0 HMIN.out).mono ?_
            rintro e w4 ⟨dd, B, rfl, hB, rfl⟩
            cases B with
            | false =>
              clear hB
              go_wp2
              go_roundw
              case rel => exact ⟨i + 1, by omega, by go_num, trivial⟩
              case measure => simp [intOf]; omega
            | true =>
              have hB' : decide (dd < x.due) = false := by have := hB rfl; simp; omega
              clear hB
              go_wp2
              go_roundw
              case rel => exact ⟨i + 1, by omega, by go_num, trivial⟩
              case measure => simp [intOf]; omega
          · obtain rfl : i = z0.length := by omega
            have hxI := HOK.out.dueI x HMIN.out.1
            have hd1 : dueL M x.due = x.id :: dueL (delL M x.id) x.due := (due_step HOK.out.rise HMIN.out HOK.out.ids (Int.le_refl _)).1
            have hd0 : dueL M (x.due - 1) = [] := (due_none fun y hy => by have := HMIN.out.2 y hy; rw [leI_iff] at this; omega).1
            have HD1 := Lib.hid hd1
            have HD0 := Lib.hid hd0
            have HDEL := Lib.hid (delL_len HMIN.out.1 HOK.out.ids)
            unfold InI at hxI
            clear hd1 hd0
            go_wp2_with fail
            refine (copy_t w t M p _ H3.out (by omega)).mono ?_
            rintro e w4 ⟨c, rfl, hC4, hT4⟩
            have HC4 := Lib.hid hC4
            have HT4 := Lib.hid hT4
            clear hC4 hT4
            go_wp2_with fail
            refine (due_t _ c M p x.due _ HC4.out (by omega)).mono ?_
            rintro e w5 ⟨a5, c5, rfl, r5, hC5⟩
            have HT5 := Lib.hid (H3.out.same hC5.chg)
            have hrow : ∃ g, a5 = some ⟨g, 0, none⟩ ∧ w5.cell? ⟨g, 0, none⟩ = some (.int .i64 x.id) := by
              rcases r5 with ⟨e, _⟩ | ⟨g, cc, e1, e2⟩
              · rw [HD1.out] at e; cases e
              · injection e1 with e1 _ _
                have h0 : 0 < (dueL M x.due).length := by rw [HD1.out]; simp
                have := e2 0 h0
                have e3 : (dueL M x.due)[0] = x.id := by simp only [HD1.out, List.getElem_cons_zero]
                rw [e3] at this
                exact ⟨g, e1, this⟩
            obtain ⟨g, rfl, hcell⟩ := hrow
            obtain ⟨dl, hdl⟩ : ∃ dl, dl = (dueL M x.due).length := ⟨_, rfl⟩
            have hdl0 : 0 < dl := by rw [hdl, HD1.out]; simp
            rw [← hdl]
            have t1 : ((dl : Int) == 0) = false := by simp; omega
            have t2 : (dl == 0) = false := by simp; omega
            have t3 : (0 : Int) < (dl : Int) := by omega
            have t4 : (x.id != x.id) = false := by simp
            clear hdl r5 hC5 HC4 HT4
            by_cases hlow : x.due = -9223372036854775808
            · have t5 : decide (-9223372036854775808 < x.due) = false := by simp; omega
              clear hlow
              go_wp2_with fail
              refine (drop_t w t M p x _ HT5.out HMIN.out.1 (by omega)).mono ?_
              rintro e w6 ⟨rfl, hT6⟩
              have HT6 := Lib.hid hT6
              clear hT6
              go_wp2
              go_roundw
              case rel => exact ⟨delL M x.id, by have := HDEL.out; have := HM.out; go_num, HT6.out⟩
              case measure => simp [intOf]; omega
            · have t5 : decide (-9223372036854775808 < x.due) = true := by simp; omega
              clear hlow
              go_wp2_with fail
              refine (copy_t w t M p _ HT5.out (by omega)).mono ?_
              rintro e w6 ⟨c6, rfl, hC6, hT6⟩
              have HC6 := Lib.hid hC6
              have HT6 := Lib.hid hT6
              clear hC6 hT6
              go_wp2_with fail
              rw [IntWalk.wrap64_in (x.due - 1) (by have := of_decide_eq_true t5; omega)]
              refine (due_t _ c6 M p (x.due - 1) _ HC6.out (by omega)).mono ?_
              rw [HD0.out]
              rintro e w7 ⟨a7, c7, rfl, r7, hC7⟩
              have HT7 := Lib.hid (HT5.out.same hC7.chg)
              clear r7 hC7 HC6 HT6
              go_wp2_with fail
              refine (drop_t w t M p x _ HT7.out HMIN.out.1 (by omega)).mono ?_
              rintro e w8 ⟨rfl, hT8⟩
              have HT8 := Lib.hid hT8
              clear hT8
              go_wp2
              go_roundw
              case rel => exact ⟨delL M x.id, by have := HDEL.out; have := HM.out; go_num, HT8.out⟩
              case measure => simp [intOf]; omega
      · have hM0 : M = [] := List.length_eq_zero_iff.1 (by omega)
        subst hM0
        have HT := Lib.hid hT
        clear hT
        go_wp2_with fail
        refine (len_t w t [] p _ HT.out).mono ?_
        rintro e w3 ⟨rfl, rfl⟩
        go_wp2
        go_ret
        exact ⟨rfl, HT.out.chg.below (Nat.le_refl _) (by simp)⟩
  · have d1 : decide ((150 : Int) < (z0.length : Int)) = true := by simp; omega
    have d3 : decide (150 < z0.length) = true := by simp; omega
    go_enter Try.func9, Try.ntmps9
    go_wp2_with fail
    refine (awake_any w).mono ?_
    rintro e w1 ⟨rfl, hc1⟩
    go_wp2
    go_ret
    exact ⟨rfl, hc1.below (Nat.le_refl _) (by simp)⟩

end Go.Proofs.Ytlkhaookdmgbnaa
