/- The walk of CacheOldest. -/
import Derived.Test.YtgdnfempcjlipaaCaC
import Derived.Test.YtgdnfempcjlipaaCacheApartW
namespace Go.Proofs.Ytgdnfempcjlipaa
open Go.RowKit Go.Maps

/-- An operation that yields is taken first; its slot is written out. -/
theorem takeD {P : Program} {md : Region.Mode} {ops : Array Oper} {Q : Exit → Act → World → Prop} {S : World → Prop} {i : Nat} {oi : Oper} {d : Option Nat} {v : Value} {fuel : Nat} {listed : Array Bool} {a : Act} {w : World} (hi : ops[i]? = some oi) (hd : oi.dst = d)
    (hs : Region.noSelect ops = true) (hf : Region.free md ops listed i = true) (hr : (Region.ready md ops listed).contains i = true)
    (hQ : ∀ c a w, Q (.panic c) (a.put d v) w → Q (.panic c) a w) (hy : YieldsIf P ops S oi v a) (hS : S w)
    (h : wpAnyH P md ops Q S fuel (listed.setIfInBounds i true) (a.put d v) w) : wpAnyH P md ops Q S (fuel + 1) listed a w := by
  subst hd
  exact wpAnyH_take hi hs hf hr hQ hy hS h
def H1R (f : Qn) (was : List Qn) (w9 : World) (h i : Value) (wr : World) : Prop := ∃ j : Nat, j ≤ was.length ∧ i = .int .i64 (j : Nat) ∧ h = .bool (hereJ f was j) ∧ Chg [] w9 wr
def W2R (f : Qn) (was : List Qn) (n : Nat) (w9 : World) (v i : Value) (wr : World) : Prop := ∃ j : Nat, j ≤ was.length ∧ i = .int .i64 (j : Nat) ∧ R.OwnR 24 3 qL w9.heap.size wr v (wantJ f was n j) ∧ Chg [] w9 wr
theorem Chg.grownR {w9 wr w' : World} {v : Value} (h : Chg [] w9 wr) (hg : wr.grownBy w' v.ownBlock) (hb : ∀ k, v.ownBlock = some k → w9.heap.size ≤ k) : Chg [] w9 w' := R.chg_grown h hg hb
/-- A question joins a row of one's own. -/
theorem wpList_addQ {w : World} {ops : Array Oper} {rest : List Oper} {o : Oper} {a : Act} {Q : Exit → Act → World → Prop} (hg : o.guard = none) (s x : Operand) (hop : o.op = .call { callee := .builtin .append, args := #[s, x], argTypes := #[43, 43] }) (base : Nat) (va : Option Addr) (vc : Nat) (l : List Qn) (q : Qn) (b : Nat)
    (hs : a.eval s = .slice va l.length vc) (hx : a.eval x = .slice (some ⟨b, 0, none⟩) 1 1) (ho : R.OwnR 24 3 qL base w (.slice va l.length vc) l) (hb : w.heap[b]? = some (.cells #[.string q.nm, .int .u16 (q.ty : Nat), .int .u16 (q.cl : Nat)] 24 (0, 0))) (hl : l.length ≤ 1000) (hbs : base ≤ w.heap.size)
    (hK : ∀ xa xc w', R.OwnR 24 3 qL base w' (.slice xa (l.length + 1) xc) (l ++ [q]) → w.grownBy w' (Value.slice va l.length vc).ownBlock → wpList Try.prog ops Q rest (a.put o.dst (.slice xa (l.length + 1) xc)) w') : wpList Try.prog ops Q (o :: rest) a w := by
  obtain ⟨i0, z, hi0, hz0, hz1, hz2, hz3⟩ := info_sizes elem_q
  refine wpList_append_own _ hg _ _ 43 hop base 24 i0 z 3 24 Try.underlying43 hi0 hz0 hz1 hz2 hz3 (by omega) _ l.length _ hs ho ⟨b, 0, none⟩ 1 1 (qL q) hx rfl ?_ (qL_one q) (by unfold maxLen; omega) (by omega) hbs ?_
  · intro j u hu
    rw [add_at, Nat.zero_add, cell_of hb]
    simpa [qL] using hu
  · intro v' w' h1 h2 _
    have h3 := R.OwnR.snoc h1
    obtain ⟨xa, xc, rfl⟩ := h3.len
    rw [List.length_append, List.length_singleton] at h3 ⊢
    exact hK xa xc w' h3 h2
set_option maxRecDepth 100000 in
set_option maxHeartbeats 4000000 in
theorem cacheOldest_walk (x0 : Int) (la : Option Addr) (lc : Nat) (l : List ActT) (x : Qn) (w : World) (_hx : (Lit.int .i64 x0).wf = true) (hA : IsActs w la l) (hx : OkQ x) :
    Calls Try.prog 5 #[.int .i64 x0, .slice la l.length lc, .agg (qV x)] w fun e w' => e = .returned (.bool true) ∧ Below w.heap.size w w' := by
  obtain ⟨nm, ty, cl⟩ := x
  unfold qV
  simp only
  obtain ⟨hq1, hq2, hq3⟩ := hx
  simp only at hq1 hq2 hq3
  have HA := Lib.hid hA
  clear hA
  go_enter Try.func5, Try.ntmps5
  go_wp2_with fail
  obtain ⟨xb, hxb⟩ : ∃ xb, xb = w.heap.size := ⟨_, rfl⟩
  rw [← hxb]
  refine calls_abs ?_
  intro w0 hw0
  have hc0 : Chg [] w w0 := by rw [hw0]; exact (Chg.refl _ _).alloc _
  have hX0 : QAt w0 xb ⟨nm, ty, cl⟩ := by unfold QAt; rw [hw0, hxb]; exact heap_new _ _
  have HC0 := Lib.hid hc0
  have HX0 := Lib.hid hX0
  clear hw0 hc0 hX0 hxb
  refine (long_any la lc l w0 (HA.out.chg HC0.out)).mono ?_
  rintro e w1 ⟨b1, rfl, hb1, dc1⟩
  have HC1 := Lib.hid (HC0.out.trans dc1)
  have HX1 := Lib.hid (HX0.out.same dc1)
  clear dc1 HC0 HX0
  cases b1 with
  | true =>
    clear hb1
    go_wp2_with fail
    refine (awake_any _).mono ?_
    rintro e w9 ⟨rfl, hc9⟩
    have HEND := Lib.hid ((HC1.out.trans hc9).below (Nat.le_refl w.heap.size) (by simp))
    clear hc9
    go_wp2
    go_ret
    exact ⟨rfl, HEND.out⟩
  | false =>
    have HO1 := Lib.hid (hb1 rfl)
    clear hb1
    obtain ⟨x0c, x1c, x2c⟩ := HX1.out.c3
    simp only at x0c x1c x2c
    by_cases h3 : 3000 < nm.size
    · have t1 : decide ((3000 : Int) < (nm.size : Int)) = true := by simp; omega
      have t1n : decide (3000 < nm.size) = true := by simpa using h3
      clear h3
      go_wp2_with fail
      refine (awake_any _).mono ?_
      rintro e w9 ⟨rfl, hc9⟩
      have HEND := Lib.hid ((HC1.out.trans hc9).below (Nat.le_refl w.heap.size) (by simp))
      clear hc9
      go_wp2
      go_ret
      exact ⟨rfl, HEND.out⟩
    · have t1 : decide ((3000 : Int) < (nm.size : Int)) = false := by simp; omega
      have t1n : decide (3000 < nm.size) = false := by simpa using h3
      have hn3 : nm.size ≤ 3000 := by omega
      obtain ⟨mb, hmb⟩ : ∃ b, b = mayB nm.data.toList := ⟨_, rfl⟩
      have HMB := Lib.hid hmb
      clear hmb h3
      go_wp2_with fail
      clear t1 t1n
      refine (may_any nm mb w1 hq1 HMB).mono ?_
      rintro e9 w9 ⟨rfl, rfl⟩
      cases mb with
      | false =>
        go_wp2_with fail
        refine (awake_any _).mono ?_
        rintro e w9 ⟨rfl, hc9⟩
        have HEND := Lib.hid ((HC1.out.trans hc9).below (Nat.le_refl w.heap.size) (by simp))
        clear hc9
        go_wp2
        go_ret
        exact ⟨rfl, HEND.out⟩
      | true =>
        have hmq : mayQ ⟨nm, ty, cl⟩ = true := HMB.out.symm
        have HMQ := Lib.hid hmq
        clear hmq
        go_wp2_with fail
        refine (awake_any _).mono ?_
        rintro e w2 ⟨rfl, hc2⟩
        have HX2 := Lib.hid (HX1.out.same hc2)
        have HC2 := Lib.hid (HC1.out.trans hc2)
        clear hc2 HX1 HC1 x0c x1c x2c
        obtain ⟨n, hn⟩ : ∃ n, n = roomN x0 := ⟨_, rfl⟩
        have hn1 : 1 ≤ n ∧ n ≤ 256 := by rw [hn]; exact room_le x0
        have hreq : wrap64 (1 + wrap64 ((IntKind.u64.wrap x0).tmod 40)) = (n : Int) := by rw [hn]; exact room_eq x0
        have HN := Lib.hid hn
        have HREQ := Lib.hid hreq
        clear hn hreq
        go_wp2_with fail
        refine (made_c (Cabs.nil (P := 0) HC2.out) x0 2 n (by omega) HN).mono ?_
        rintro e w3 ⟨cb, rfl, hT3, hc3⟩
        have HT3 : Hid (Cabs w w3 0 [⟨cb, n, 2, 5, ⟨0, []⟩⟩]) := Lib.hid hT3
        have HX3 := Lib.hid (HX2.out.same hc3)
        clear hT3 hc3 HX2 HC2
        go_wp2_with fail
        rw [HREQ.out]
        refine (play_c HT3.out (i0 := 0) rfl la lc l HA.out HO1.out (by omega)).mono ?_
        rintro e w4 ⟨rfl, hT4, hck4⟩
        obtain ⟨c0, hc0⟩ : ∃ c0, c0 = runA n ⟨0, []⟩ l := ⟨_, rfl⟩
        have HT4 : Hid (Cabs w w4 300 [⟨cb, n, 2, 5, c0⟩]) := Lib.hid (hT4.cast (by have := HO1.out.1; omega) (by rw [hc0]; rfl))
        have HX4 : Hid (QAt w4 xb ⟨nm, ty, cl⟩) := Lib.hid (hck4.2 _ _ _ _ HX3.out (by decide))
        clear hT4 hck4 hc0 HT3 HX3
        obtain ⟨rr, hrr⟩ : ∃ rr : Nat, rr = c0.M.length - (advC c0 1099511627776).M.length := ⟨_, rfl⟩
        have HRR := Lib.hid hrr
        clear hrr
        go_wp2_with fail
        refine (expire_c HT4.out (i := 0) rfl 1099511627776 rr (by omega) HRR).mono ?_
        rintro e w5 ⟨rfl, hT5, hcc5⟩
        have hok0 := HT4.out.ok (i := 0) rfl
        obtain ⟨c1, hc1⟩ : ∃ c1, c1 = advC c0 topT := ⟨_, rfl⟩
        have HT5 : Hid (Cabs w w5 300 [⟨cb, n, 2, 5, c1⟩]) := Lib.hid (by rw [hc1]; exact hT5)
        have HX5 := Lib.hid (HX4.out.cchg hcc5)
        have hok1 : OkM n c1 := by rw [hc1]; exact hok0.adv topT
        have hnow1 : c1.now = topT := by rw [hc1]; exact adv_top hok0
        have hadv : advC c1 topT = c1 := by rw [hc1]; exact adv_top2 hok0
        obtain ⟨was, hwas⟩ : ∃ was, was = c1.M.map (·.q) := ⟨_, rfl⟩
        have hwl : was.length ≤ n := by rw [hwas, List.length_map]; exact hok1.len
        obtain ⟨f, hf⟩ : ∃ f, f = foldQ ⟨nm, ty, cl⟩ := ⟨_, rfl⟩
        have heq : ∀ q ∈ was, eqQ q ⟨nm, ty, cl⟩ = decide (q = f) := by rw [hwas, hf]; exact eq_kept hok1 HMQ.out
        have hoq : ∀ q ∈ was, OkQ q := by rw [hwas]; exact hok1.okq
        have hsz : ∀ q ∈ was, q.nm.size ≤ 100000 := by
          intro q hq
          rw [hwas] at hq
          obtain ⟨e, he, rfl⟩ := List.mem_map.1 hq
          have h2 := (mayB_len (hok1.may e he).1).2
          rw [size_list] at h2
          omega
        have HOK1 := Lib.hid (And.intro hok1 (And.intro hnow1 hadv))
        have HWAS := Lib.hid hwas
        have HF := Lib.hid hf
        have HEQ := Lib.hid heq
        have HOQ := Lib.hid (And.intro hoq hsz)
        clear hT5 hcc5 hok0 hc1 hok1 hnow1 hadv hwas hf heq hoq hsz HT4 HX4 HRR
        go_wp2_with fail
        refine (row_c HT5.out (i := 0) rfl was HWAS).mono ?_
        rintro e w6 ⟨wa, wc, rfl, hr6, hc6⟩
        have HT6 := Lib.hid (HT5.out.same hc6)
        have HX6 := Lib.hid (HX5.out.same hc6)
        have HR6 := Lib.hid hr6
        have S6 := Lib.hid HX6.out.c3
        obtain ⟨wl, hwle⟩ : ∃ wl, wl = was.length := ⟨_, rfl⟩
        rw [← hwle] at hwl ⊢
        have HWL := Lib.hid hwle
        have tl1 : decide ((n : Int) < (wl : Int)) = false := by rw [decide_eq_false_iff_not]; omega
        have tl1n : decide (n < wl) = false := by rw [decide_eq_false_iff_not]; omega
        have hok9 : Hid ((0 : Int) = if okK ⟨nm, ty, cl⟩ 9 = true then 0 else 1) := Lib.hid (by
          have : okK ⟨nm, ty, cl⟩ 9 = true := by unfold okK; rw [HMQ.out]; rfl
          rw [if_pos this])
        clear hr6 hc6 HT5 HX5 hwle
        go_wp2_with fail
        go_region_held3 (fun W => W.cell? ⟨xb, 0, none⟩ = some (.string nm) ∧ W.cell? ⟨xb, 1, none⟩ = some (.int .u16 (ty : Nat)) ∧ W.cell? ⟨xb, 2, none⟩ = some (.int .u16 (cl : Nat))) (first | (with_reducible exact S8.out) | (with_reducible exact S7.out) | exact S6.out) (first | (go_at_call 12; refine (says_any 7 w6.drew (by omega)).mono ?_; rintro e9 w7 ⟨sa, oa, rfl, hs7, hc7⟩; replace hc7 := hc7.undrew; have HT7 := Lib.hid (HT6.out.same hc7); have HX7 := Lib.hid (HX6.out.same hc7); have HR7 := Lib.hid (HR6.out.same hc7); have S7 := Lib.hid HX7.out.c3; have HS7 := Lib.hid (hs7.low (Nat.zero_le _)); clear hs7 hc7) | (go_at_call 11; refine (keep_c HT7.out (i := 0) rfl ⟨nm, ty, cl⟩ 7 sa oa 1 1 0 0 (saysV 7) 9 1099511627776 (by omega) hq1 hq2 hq3 (by omega) (.inr HS7.out) 0 hok9).mono ?_; rintro e9 w8 ⟨rfl, hT8, hcc8⟩; have HX8 := Lib.hid (HX7.out.cchg hcc8); have HR8 := Lib.hid (hcc8.ownR HR7.out (by decide)); have S8 := Lib.hid HX8.out.c3; clear hcc8))
        obtain ⟨c2, hc2⟩ : ∃ c2, c2 = keepC n c1 ⟨nm, ty, cl⟩ (saysV 7) 9 topT := ⟨_, rfl⟩
        have HT8 : Hid (Cabs w w8 301 [⟨cb, n, 2, 5, c2⟩]) := Lib.hid (by rw [hc2]; exact hT8)
        have hM2 : c2.M.map (·.q) = wantJ f was n was.length ++ [f] := by
          rw [hc2]
          unfold keepC
          have hok : okK ⟨nm, ty, cl⟩ 9 = true := by unfold okK; rw [HMQ.out]; rfl
          rw [if_pos hok, HOK1.out.2.2, ← HF.out, HWAS.out]
          exact want_keep hn1.1 HOK1.out.1.len
        have HM2 := Lib.hid hM2
        clear hT8 hc2 hM2 hok9 S6 S7 S8 HX6 HX7 HR6 HR7 HT6 HT7 HS7
        go_wp2_with fail
        go_loopw [11, 12] (fun h i wr => H1R f was w8 h i wr) (fun _ i _ => wl - (intOf i).toNat)
        case atStart => exact ⟨0, Nat.zero_le _, rfl, rfl, Chg.refl _ _⟩
        case round =>
          obtain ⟨j, hj, rfl, rfl, hck⟩ := hrel
          rw [← HWL.out] at hj
          obtain ⟨hb, hhb⟩ : ∃ hb, hb = hereJ f was j := ⟨_, rfl⟩
          rw [← hhb]
          have HHB := Lib.hid hhb
          clear hhb
          by_cases hlt : j < wl
          · cases hb with
            | true =>
              have hjd : j < was.length := by rw [← HWL.out]; exact hlt
              have hnx : hereJ f was (j + 1) = true := by rw [hereJ_succ hjd, ← HHB.out]; rfl
              have HNX := Lib.hid hnx
              clear hnx hjd
              go_wp2_with fail
              go_quiet (fail)
              go_wp2
              go_roundw
              case rel => first | exact ⟨j + 1, by rw [← HWL.out]; omega, by go_num, by rw [HNX.out], hck.drewN _⟩ | ((repeat apply Exists.intro); exact ⟨⟨j + 1, by rw [← HWL.out]; omega, by go_num, by rw [HNX.out], hck.drewN _⟩, rfl⟩)
              case measure => simp [intOf] <;> omega
            | false =>
              have hjd : j < was.length := by rw [← HWL.out]; exact hlt
              obtain ⟨g, gc, hgv, _, _, hcell⟩ := (HR8.out.same hck).cells qL_len (by omega)
              rw [← HWL.out] at hgv
              injection hgv with hg1 _ hg3
              subst hg1
              subst hg3
              obtain ⟨⟨qn, qt, qc⟩, hs⟩ : ∃ s, s = was[j] := ⟨_, rfl⟩
              have hqs := HOQ.out.2 was[j] (List.getElem_mem hjd)
              have hev := HEQ.out was[j] (List.getElem_mem hjd)
              have hcj := hcell j hjd
              rw [← hs] at hqs hev hcj
              simp only at hqs
              have d0 : wr.cell? ⟨g, j * 3, none⟩ = some (.string qn) := hcj 0 _ rfl
              have d1 : wr.cell? ⟨g, j * 3 + 1, none⟩ = some (.int .u16 (qt : Nat)) := hcj 1 _ rfl
              have d2 : wr.cell? ⟨g, j * 3 + 2, none⟩ = some (.int .u16 (qc : Nat)) := hcj 2 _ rfl
              obtain ⟨z0, z1, z2⟩ := (HX8.out.same hck).c3
              simp only at z0 z1 z2
              have S0 : Hid (wr.cell? ⟨g, j * 3, none⟩ = some (.string qn) ∧ wr.cell? ⟨g, j * 3 + 1, none⟩ = some (.int .u16 (qt : Nat)) ∧ wr.cell? ⟨g, j * 3 + 2, none⟩ = some (.int .u16 (qc : Nat)) ∧ wr.cell? ⟨xb, 0, none⟩ = some (.string nm) ∧ wr.cell? ⟨xb, 1, none⟩ = some (.int .u16 (ty : Nat)) ∧ wr.cell? ⟨xb, 2, none⟩ = some (.int .u16 (cl : Nat))) := Lib.hid ⟨d0, d1, d2, z0, z1, z2⟩
              have HS := Lib.hid hs
              clear hcell hcj hs d0 d1 d2 z0 z1 z2
              obtain ⟨ev, hevv⟩ : ∃ ev, ev = eqQ ⟨qn, qt, qc⟩ ⟨nm, ty, cl⟩ := ⟨_, rfl⟩
              have HEV := Lib.hid hevv
              have hnx : hereJ f was (j + 1) = ev := by rw [hereJ_succ hjd, ← HHB.out, hevv, hev, ← HS.out]; rfl
              have HNX := Lib.hid hnx
              clear hnx hev hevv
              go_wp2_with fail
              go_region_held3 (fun W => W.cell? ⟨g, j * 3, none⟩ = some (.string qn) ∧ W.cell? ⟨g, j * 3 + 1, none⟩ = some (.int .u16 (qt : Nat)) ∧ W.cell? ⟨g, j * 3 + 2, none⟩ = some (.int .u16 (qc : Nat)) ∧ W.cell? ⟨xb, 0, none⟩ = some (.string nm) ∧ W.cell? ⟨xb, 1, none⟩ = some (.int .u16 (ty : Nat)) ∧ W.cell? ⟨xb, 2, none⟩ = some (.int .u16 (cl : Nat))) (first | (with_reducible exact S9.out) | exact S0.out) (first | (go_at_call 18; refine (equal_any ⟨qn, qt, qc⟩ ⟨nm, ty, cl⟩ ev wr.drew hqs (Nat.le_trans hn3 (by decide)) HEV).mono ?_; rintro e9 w9 ⟨rfl, hc9⟩; replace hc9 := hc9.undrew; have S9 := Lib.hid (c6_chg S0.out hc9)))
              have HC9 := Lib.hid (hck.trans hc9)
              clear hc9 S0 S9
              go_wp2
              go_roundw
              case rel => exact ⟨j + 1, by rw [← HWL.out]; omega, by go_num, by rw [HNX.out], HC9.out⟩
              case measure => simp [intOf] <;> omega
          · have hjw : wl = j := by omega
            subst hjw
            have hhv : hb = hereJ f was was.length := by rw [HHB.out, HWL.out]
            have HHV := Lib.hid hhv
            have HCK0 := Lib.hid hck
            clear HHB hhv hck
            go_wp2_with fail
            go_loopw [10, 13] (fun v i wr => W2R f was n w8 v i wr) (fun _ i _ => wl - (intOf i).toNat)
            case atStart => exact ⟨0, Nat.zero_le _, rfl, by rw [wantJ_zero]; exact R.OwnR.nil _ _ _ _ _, HCK0.out⟩
            case round =>
              clear HCK0

              obtain ⟨j, hj, rfl, ho, hck⟩ := hrel
              rw [← HWL.out] at hj
              obtain ⟨lw, hlw⟩ : ∃ lw, lw = wantJ f was n j := ⟨_, rfl⟩
              have hlwl : lw.length ≤ 1000 := by rw [hlw]; have := @wantJ_len f was n j; have := HWL.out; omega
              rw [← hlw] at ho
              obtain ⟨va, vc, rfl⟩ := ho.len
              have HO := Lib.hid ho
              have HLW := Lib.hid hlw
              clear ho hlw
              by_cases hlt : j < wl
              · have hjd : j < was.length := by rw [← HWL.out]; exact hlt
                obtain ⟨g, gc, hgv, _, _, hcell⟩ := (HR8.out.same hck).cells qL_len (by omega)
                rw [← HWL.out] at hgv
                injection hgv with hg1 _ hg3
                subst hg1
                subst hg3
                obtain ⟨⟨qn, qt, qc⟩, hs⟩ : ∃ s, s = was[j] := ⟨_, rfl⟩
                have hqs := HOQ.out.2 was[j] (List.getElem_mem hjd)
                have hev := HEQ.out was[j] (List.getElem_mem hjd)
                have hcj := hcell j hjd
                rw [← hs] at hqs hev hcj
                simp only at hqs
                have d0 : wr.cell? ⟨g, j * 3, none⟩ = some (.string qn) := hcj 0 _ rfl
                have d1 : wr.cell? ⟨g, j * 3 + 1, none⟩ = some (.int .u16 (qt : Nat)) := hcj 1 _ rfl
                have d2 : wr.cell? ⟨g, j * 3 + 2, none⟩ = some (.int .u16 (qc : Nat)) := hcj 2 _ rfl
                obtain ⟨z0, z1, z2⟩ := (HX8.out.same hck).c3
                simp only at z0 z1 z2
                have S0 : Hid (wr.cell? ⟨g, j * 3, none⟩ = some (.string qn) ∧ wr.cell? ⟨g, j * 3 + 1, none⟩ = some (.int .u16 (qt : Nat)) ∧ wr.cell? ⟨g, j * 3 + 2, none⟩ = some (.int .u16 (qc : Nat)) ∧ wr.cell? ⟨xb, 0, none⟩ = some (.string nm) ∧ wr.cell? ⟨xb, 1, none⟩ = some (.int .u16 (ty : Nat)) ∧ wr.cell? ⟨xb, 2, none⟩ = some (.int .u16 (cl : Nat))) := Lib.hid ⟨d0, d1, d2, z0, z1, z2⟩
                have HS := Lib.hid hs
                clear hcell hcj hs d0 d1 d2 z0 z1 z2
                have sk0 : skipJ f was n j hjd = (decide ((⟨qn, qt, qc⟩ : Qn) = f) || (decide (j = 0) && (!hb && decide (was.length = n)))) := by
                  unfold skipJ goB
                  rw [← HS.out, ← HHV.out]
                obtain ⟨ev, hevv⟩ : ∃ ev, ev = decide ((⟨qn, qt, qc⟩ : Qn) = f) := ⟨_, rfl⟩
                rw [← hevv] at sk0 hev
                have HEV := Lib.hid hev.symm
                clear hev hevv
                cases ev with
                | true =>
                  have hskip : skipJ f was n j hjd = true := by rw [sk0]; rfl
                  clear sk0
                  go_wp2_with fail
                  refine wp_region_held_drew (S := fun W => W.cell? ⟨g, j * 3, none⟩ = some (.string qn) ∧ W.cell? ⟨g, j * 3 + 1, none⟩ = some (.int .u16 (qt : Nat)) ∧ W.cell? ⟨g, j * 3 + 2, none⟩ = some (.int .u16 (qc : Nat)) ∧ W.cell? ⟨xb, 0, none⟩ = some (.string nm) ∧ W.cell? ⟨xb, 1, none⟩ = some (.int .u16 (ty : Nat)) ∧ W.cell? ⟨xb, 2, none⟩ = some (.int .u16 (cl : Nat))) (by kernel_rfl) (c6_chg S0.out (Chg.refl [] wr).drew) (fun hHeld => ?_)
                  refine takeD (i := 0) (d := some 82) (v := ?_) rfl rfl (by kernel_rfl) (by kernel_rfl) (by kernel_rfl) (fun _ _ _ h => h) (Or.inl ⟨by rfl, ?_⟩) hHeld ?_
                  rotate_left
                  · intro w hSw
                    obtain ⟨s1, s2, s3, s4, s5, s6⟩ := hSw
                    go_simp <;> (with_reducible rfl)
                  try simp only [Act.put, List.setIfInBounds_toArray, List.set_cons_zero, List.set_cons_succ]
                  refine takeD (i := 1) (d := some 83) (v := ?_) rfl rfl (by kernel_rfl) (by kernel_rfl) (by kernel_rfl) (fun _ _ _ h => h) (Or.inl ⟨by rfl, ?_⟩) hHeld ?_
                  rotate_left
                  · intro w hSw
                    obtain ⟨s1, s2, s3, s4, s5, s6⟩ := hSw
                    go_simp <;> (with_reducible rfl)
                  try simp only [Act.put, List.setIfInBounds_toArray, List.set_cons_zero, List.set_cons_succ]
                  refine takeD (i := 2) (d := some 84) (v := ?_) rfl rfl (by kernel_rfl) (by kernel_rfl) (by kernel_rfl) (fun _ _ _ h => h) (Or.inl ⟨by rfl, ?_⟩) hHeld ?_
                  rotate_left
                  · intro w hSw
                    obtain ⟨s1, s2, s3, s4, s5, s6⟩ := hSw
                    go_simp <;> (with_reducible rfl)
                  try simp only [Act.put, List.setIfInBounds_toArray, List.set_cons_zero, List.set_cons_succ]
                  refine takeD (i := 3) (d := some 85) (v := ?_) rfl rfl (by kernel_rfl) (by kernel_rfl) (by kernel_rfl) (fun _ _ _ h => h) (Or.inl ⟨by rfl, ?_⟩) hHeld ?_
                  rotate_left
                  · intro w hSw
                    obtain ⟨s1, s2, s3, s4, s5, s6⟩ := hSw
                    go_simp <;> (with_reducible rfl)
                  try simp only [Act.put, List.setIfInBounds_toArray, List.set_cons_zero, List.set_cons_succ]
                  refine takeD (i := 4) (d := some 86) (v := ?_) rfl rfl (by kernel_rfl) (by kernel_rfl) (by kernel_rfl) (fun _ _ _ h => h) (Or.inl ⟨by rfl, ?_⟩) hHeld ?_
                  rotate_left
                  · intro w hSw
                    obtain ⟨s1, s2, s3, s4, s5, s6⟩ := hSw
                    go_simp <;> (with_reducible rfl)
                  try simp only [Act.put, List.setIfInBounds_toArray, List.set_cons_zero, List.set_cons_succ]
                  refine wpAnyH_ready (rs := [5]) (by kernel_rfl) (by simp) ?_
                  refine AllReadyH.cons rfl (fun K hK => ?_) AllReadyH.nil
                  go_simp
                  refine (equal_any ⟨qn, qt, qc⟩ ⟨nm, ty, cl⟩ true wr.drew hqs (Nat.le_trans hn3 (by decide)) HEV).mono ?_
                  rintro e9 w9 ⟨rfl, hc9⟩
                  replace hc9 := hc9.undrew
                  have S9 := Lib.hid (c6_chg S0.out hc9)
                  go_wp2_with fail
                  refine hK.out _ _ S9.out (fun hHeld2 => ?_)
                  clear hK K
                  try simp only [Act.put, List.setIfInBounds_toArray, List.set_cons_zero, List.set_cons_succ]
                  refine takeD (i := 6) (d := some 88) (v := ?_) rfl rfl (by kernel_rfl) (by kernel_rfl) (by kernel_rfl) (fun _ _ _ h => h) (Or.inl ⟨by rfl, ?_⟩) hHeld2 ?_
                  rotate_left
                  · intro w hSw
                    obtain ⟨s1, s2, s3, s4, s5, s6⟩ := hSw
                    go_simp <;> (with_reducible rfl)
                  try simp only [Act.put, List.setIfInBounds_toArray, List.set_cons_zero, List.set_cons_succ]
                  refine takeD (i := 7) (d := some 89) (v := undef) rfl rfl (by kernel_rfl) (by kernel_rfl) (by kernel_rfl) (fun _ _ _ h => h) (Or.inr ⟨by rfl, rfl⟩) hHeld2 ?_
                  try simp only [Act.put, List.setIfInBounds_toArray, List.set_cons_zero, List.set_cons_succ]
                  refine takeD (i := 8) (d := some 90) (v := undef) rfl rfl (by kernel_rfl) (by kernel_rfl) (by kernel_rfl) (fun _ _ _ h => h) (Or.inr ⟨by rfl, rfl⟩) hHeld2 ?_
                  try simp only [Act.put, List.setIfInBounds_toArray, List.set_cons_zero, List.set_cons_succ]
                  refine takeD (i := 9) (d := some 91) (v := undef) rfl rfl (by kernel_rfl) (by kernel_rfl) (by kernel_rfl) (fun _ _ _ h => h) (Or.inr ⟨by rfl, rfl⟩) hHeld2 ?_
                  try simp only [Act.put, List.setIfInBounds_toArray, List.set_cons_zero, List.set_cons_succ]
                  refine takeD (i := 10) (d := some 92) (v := undef) rfl rfl (by kernel_rfl) (by kernel_rfl) (by kernel_rfl) (fun _ _ _ h => h) (Or.inr ⟨by rfl, rfl⟩) hHeld2 ?_
                  try simp only [Act.put, List.setIfInBounds_toArray, List.set_cons_zero, List.set_cons_succ]
                  refine takeD (i := 11) (d := some 93) (v := undef) rfl rfl (by kernel_rfl) (by kernel_rfl) (by kernel_rfl) (fun _ _ _ h => h) (Or.inr ⟨by rfl, rfl⟩) hHeld2 ?_
                  try simp only [Act.put, List.setIfInBounds_toArray, List.set_cons_zero, List.set_cons_succ]
                  refine takeD (i := 12) (d := some 94) (v := undef) rfl rfl (by kernel_rfl) (by kernel_rfl) (by kernel_rfl) (fun _ _ _ h => h) (Or.inr ⟨by rfl, rfl⟩) hHeld2 ?_
                  try simp only [Act.put, List.setIfInBounds_toArray, List.set_cons_zero, List.set_cons_succ]
                  refine takeD (i := 13) (d := some 95) (v := undef) rfl rfl (by kernel_rfl) (by kernel_rfl) (by kernel_rfl) (fun _ _ _ h => h) (Or.inr ⟨by rfl, rfl⟩) hHeld2 ?_
                  try simp only [Act.put, List.setIfInBounds_toArray, List.set_cons_zero, List.set_cons_succ]
                  refine takeD (i := 14) (d := some 96) (v := undef) rfl rfl (by kernel_rfl) (by kernel_rfl) (by kernel_rfl) (fun _ _ _ h => h) (Or.inr ⟨by rfl, rfl⟩) hHeld2 ?_
                  try simp only [Act.put, List.setIfInBounds_toArray, List.set_cons_zero, List.set_cons_succ]
                  refine takeD (i := 15) (d := some 97) (v := undef) rfl rfl (by kernel_rfl) (by kernel_rfl) (by kernel_rfl) (fun _ _ _ h => h) (Or.inr ⟨by rfl, rfl⟩) hHeld2 ?_
                  try simp only [Act.put, List.setIfInBounds_toArray, List.set_cons_zero, List.set_cons_succ]
                  refine takeD (i := 16) (d := some 98) (v := undef) rfl rfl (by kernel_rfl) (by kernel_rfl) (by kernel_rfl) (fun _ _ _ h => h) (Or.inr ⟨by rfl, rfl⟩) hHeld2 ?_
                  try simp only [Act.put, List.setIfInBounds_toArray, List.set_cons_zero, List.set_cons_succ]
                  refine takeD (i := 17) (d := some 99) (v := undef) rfl rfl (by kernel_rfl) (by kernel_rfl) (by kernel_rfl) (fun _ _ _ h => h) (Or.inr ⟨by rfl, rfl⟩) hHeld2 ?_
                  try simp only [Act.put, List.setIfInBounds_toArray, List.set_cons_zero, List.set_cons_succ]
                  refine takeD (i := 18) (d := some 100) (v := undef) rfl rfl (by kernel_rfl) (by kernel_rfl) (by kernel_rfl) (fun _ _ _ h => h) (Or.inr ⟨by rfl, rfl⟩) hHeld2 ?_
                  try simp only [Act.put, List.setIfInBounds_toArray, List.set_cons_zero, List.set_cons_succ]
                  refine takeD (i := 19) (d := some 101) (v := ?_) rfl rfl (by kernel_rfl) (by kernel_rfl) (by kernel_rfl) (fun _ _ _ h => h) (Or.inl ⟨by rfl, ?_⟩) hHeld2 ?_
                  rotate_left
                  · intro w hSw
                    obtain ⟨s1, s2, s3, s4, s5, s6⟩ := hSw
                    go_simp <;> (with_reducible rfl)
                  try simp only [Act.put, List.setIfInBounds_toArray, List.set_cons_zero, List.set_cons_succ]
                  refine wpAnyH_done (by kernel_rfl) ?_ _
                  try simp only [Act.put, List.setIfInBounds_toArray, List.set_cons_zero, List.set_cons_succ]
                  clear hHeld hHeld2
                  have hnx : wantJ f was n (j + 1) = lw := by rw [wantJ_succ hjd, if_pos hskip, HLW.out]
                  have hnew : W2R f was n w8 (.slice va lw.length vc) (.int .i64 ((j + 1 : Nat) : Int)) w9 := ⟨j + 1, hjd, rfl, by rw [hnx]; exact HO.out.same hc9, hck.trans hc9⟩
                  have HNEW := Lib.hid hnew
                  clear hnx hnew hc9 S0 S9 hskip
                  go_wp2
                  go_roundw
                  case rel => exact HNEW.out
                  case measure => simp [intOf] <;> omega
                | false =>
                  rw [Bool.false_or] at sk0
                  by_cases hj0 : j = 0
                  · have tj : ((j : Int) == 0) = true := by rw [beq_iff_eq]; omega
                    rw [decide_eq_true hj0, Bool.true_and] at sk0
                    cases hb with
                    | true =>
                      have hskip : skipJ f was n j hjd = false := by rw [sk0]; rfl
                      clear sk0 hj0
                      go_wp2_with fail
                      refine wp_region_held_drew (S := fun W => W.cell? ⟨g, j * 3, none⟩ = some (.string qn) ∧ W.cell? ⟨g, j * 3 + 1, none⟩ = some (.int .u16 (qt : Nat)) ∧ W.cell? ⟨g, j * 3 + 2, none⟩ = some (.int .u16 (qc : Nat)) ∧ W.cell? ⟨xb, 0, none⟩ = some (.string nm) ∧ W.cell? ⟨xb, 1, none⟩ = some (.int .u16 (ty : Nat)) ∧ W.cell? ⟨xb, 2, none⟩ = some (.int .u16 (cl : Nat))) (by kernel_rfl) (c6_chg S0.out (Chg.refl [] wr).drew) (fun hHeld => ?_)
                      refine takeD (i := 0) (d := some 82) (v := ?_) rfl rfl (by kernel_rfl) (by kernel_rfl) (by kernel_rfl) (fun _ _ _ h => h) (Or.inl ⟨by rfl, ?_⟩) hHeld ?_
                      rotate_left
                      · intro w hSw
                        obtain ⟨s1, s2, s3, s4, s5, s6⟩ := hSw
                        go_simp <;> (with_reducible rfl)
                      try simp only [Act.put, List.setIfInBounds_toArray, List.set_cons_zero, List.set_cons_succ]
                      refine takeD (i := 1) (d := some 83) (v := ?_) rfl rfl (by kernel_rfl) (by kernel_rfl) (by kernel_rfl) (fun _ _ _ h => h) (Or.inl ⟨by rfl, ?_⟩) hHeld ?_
                      rotate_left
                      · intro w hSw
                        obtain ⟨s1, s2, s3, s4, s5, s6⟩ := hSw
                        go_simp <;> (with_reducible rfl)
                      try simp only [Act.put, List.setIfInBounds_toArray, List.set_cons_zero, List.set_cons_succ]
                      refine takeD (i := 2) (d := some 84) (v := ?_) rfl rfl (by kernel_rfl) (by kernel_rfl) (by kernel_rfl) (fun _ _ _ h => h) (Or.inl ⟨by rfl, ?_⟩) hHeld ?_
                      rotate_left
                      · intro w hSw
                        obtain ⟨s1, s2, s3, s4, s5, s6⟩ := hSw
                        go_simp <;> (with_reducible rfl)
                      try simp only [Act.put, List.setIfInBounds_toArray, List.set_cons_zero, List.set_cons_succ]
                      refine takeD (i := 3) (d := some 85) (v := ?_) rfl rfl (by kernel_rfl) (by kernel_rfl) (by kernel_rfl) (fun _ _ _ h => h) (Or.inl ⟨by rfl, ?_⟩) hHeld ?_
                      rotate_left
                      · intro w hSw
                        obtain ⟨s1, s2, s3, s4, s5, s6⟩ := hSw
                        go_simp <;> (with_reducible rfl)
                      try simp only [Act.put, List.setIfInBounds_toArray, List.set_cons_zero, List.set_cons_succ]
                      refine takeD (i := 4) (d := some 86) (v := ?_) rfl rfl (by kernel_rfl) (by kernel_rfl) (by kernel_rfl) (fun _ _ _ h => h) (Or.inl ⟨by rfl, ?_⟩) hHeld ?_
                      rotate_left
                      · intro w hSw
                        obtain ⟨s1, s2, s3, s4, s5, s6⟩ := hSw
                        go_simp <;> (with_reducible rfl)
                      try simp only [Act.put, List.setIfInBounds_toArray, List.set_cons_zero, List.set_cons_succ]
                      refine wpAnyH_ready (rs := [5]) (by kernel_rfl) (by simp) ?_
                      refine AllReadyH.cons rfl (fun K hK => ?_) AllReadyH.nil
                      go_simp
                      refine (equal_any ⟨qn, qt, qc⟩ ⟨nm, ty, cl⟩ false wr.drew hqs (Nat.le_trans hn3 (by decide)) HEV).mono ?_
                      rintro e9 w9 ⟨rfl, hc9⟩
                      replace hc9 := hc9.undrew
                      have S9 := Lib.hid (c6_chg S0.out hc9)
                      go_wp2_with fail
                      refine hK.out _ _ S9.out (fun hHeld2 => ?_)
                      clear hK K
                      try simp only [Act.put, List.setIfInBounds_toArray, List.set_cons_zero, List.set_cons_succ]
                      refine takeD (i := 6) (d := some 88) (v := ?_) rfl rfl (by kernel_rfl) (by kernel_rfl) (by kernel_rfl) (fun _ _ _ h => h) (Or.inl ⟨by rfl, ?_⟩) hHeld2 ?_
                      rotate_left
                      · intro w hSw
                        obtain ⟨s1, s2, s3, s4, s5, s6⟩ := hSw
                        go_simp <;> (with_reducible rfl)
                      try simp only [Act.put, List.setIfInBounds_toArray, List.set_cons_zero, List.set_cons_succ]
                      refine takeD (i := 7) (d := some 89) (v := ?_) rfl rfl (by kernel_rfl) (by kernel_rfl) (by kernel_rfl) (fun _ _ _ h => h) (Or.inl ⟨by rfl, ?_⟩) hHeld2 ?_
                      rotate_left
                      · intro w hSw
                        obtain ⟨s1, s2, s3, s4, s5, s6⟩ := hSw
                        go_simp <;> (with_reducible rfl)
                      try simp only [Act.put, List.setIfInBounds_toArray, List.set_cons_zero, List.set_cons_succ]
                      refine takeD (i := 8) (d := some 90) (v := ?_) rfl rfl (by kernel_rfl) (by kernel_rfl) (by kernel_rfl) (fun _ _ _ h => h) (Or.inl ⟨by rfl, ?_⟩) hHeld2 ?_
                      rotate_left
                      · intro w hSw
                        obtain ⟨s1, s2, s3, s4, s5, s6⟩ := hSw
                        go_simp <;> (with_reducible rfl)
                      try simp only [Act.put, List.setIfInBounds_toArray, List.set_cons_zero, List.set_cons_succ]
                      refine takeD (i := 9) (d := some 91) (v := ?_) rfl rfl (by kernel_rfl) (by kernel_rfl) (by kernel_rfl) (fun _ _ _ h => h) (Or.inl ⟨by rfl, ?_⟩) hHeld2 ?_
                      rotate_left
                      · intro w hSw
                        obtain ⟨s1, s2, s3, s4, s5, s6⟩ := hSw
                        go_simp <;> (with_reducible rfl)
                      try simp only [Act.put, List.setIfInBounds_toArray, List.set_cons_zero, List.set_cons_succ]
                      refine takeD (i := 10) (d := some 92) (v := ?_) rfl rfl (by kernel_rfl) (by kernel_rfl) (by kernel_rfl) (fun _ _ _ h => h) (Or.inl ⟨by rfl, ?_⟩) hHeld2 ?_
                      rotate_left
                      · intro w hSw
                        obtain ⟨s1, s2, s3, s4, s5, s6⟩ := hSw
                        go_simp <;> (with_reducible rfl)
                      try simp only [Act.put, List.setIfInBounds_toArray, List.set_cons_zero, List.set_cons_succ]
                      refine takeD (i := 11) (d := some 93) (v := ?_) rfl rfl (by kernel_rfl) (by kernel_rfl) (by kernel_rfl) (fun _ _ _ h => h) (Or.inl ⟨by rfl, ?_⟩) hHeld2 ?_
                      rotate_left
                      · intro w hSw
                        obtain ⟨s1, s2, s3, s4, s5, s6⟩ := hSw
                        go_simp <;> (with_reducible rfl)
                      try simp only [Act.put, List.setIfInBounds_toArray, List.set_cons_zero, List.set_cons_succ]
                      refine takeD (i := 12) (d := some 94) (v := ?_) rfl rfl (by kernel_rfl) (by kernel_rfl) (by kernel_rfl) (fun _ _ _ h => h) (Or.inl ⟨by rfl, ?_⟩) hHeld2 ?_
                      rotate_left
                      · intro w hSw
                        obtain ⟨s1, s2, s3, s4, s5, s6⟩ := hSw
                        go_simp <;> (with_reducible rfl)
                      try simp only [Act.put, List.setIfInBounds_toArray, List.set_cons_zero, List.set_cons_succ]
                      refine takeD (i := 13) (d := some 95) (v := ?_) rfl rfl (by kernel_rfl) (by kernel_rfl) (by kernel_rfl) (fun _ _ _ h => h) (Or.inl ⟨by rfl, ?_⟩) hHeld2 ?_
                      rotate_left
                      · intro w hSw
                        obtain ⟨s1, s2, s3, s4, s5, s6⟩ := hSw
                        go_simp <;> (with_reducible rfl)
                      try simp only [Act.put, List.setIfInBounds_toArray, List.set_cons_zero, List.set_cons_succ]
                      refine takeD (i := 14) (d := some 96) (v := undef) rfl rfl (by kernel_rfl) (by kernel_rfl) (by kernel_rfl) (fun _ _ _ h => h) (Or.inr ⟨by rfl, rfl⟩) hHeld2 ?_
                      try simp only [Act.put, List.setIfInBounds_toArray, List.set_cons_zero, List.set_cons_succ]
                      refine takeD (i := 15) (d := some 97) (v := undef) rfl rfl (by kernel_rfl) (by kernel_rfl) (by kernel_rfl) (fun _ _ _ h => h) (Or.inr ⟨by rfl, rfl⟩) hHeld2 ?_
                      try simp only [Act.put, List.setIfInBounds_toArray, List.set_cons_zero, List.set_cons_succ]
                      refine takeD (i := 16) (d := some 98) (v := undef) rfl rfl (by kernel_rfl) (by kernel_rfl) (by kernel_rfl) (fun _ _ _ h => h) (Or.inr ⟨by rfl, rfl⟩) hHeld2 ?_
                      try simp only [Act.put, List.setIfInBounds_toArray, List.set_cons_zero, List.set_cons_succ]
                      refine takeD (i := 17) (d := some 99) (v := undef) rfl rfl (by kernel_rfl) (by kernel_rfl) (by kernel_rfl) (fun _ _ _ h => h) (Or.inr ⟨by rfl, rfl⟩) hHeld2 ?_
                      try simp only [Act.put, List.setIfInBounds_toArray, List.set_cons_zero, List.set_cons_succ]
                      refine takeD (i := 18) (d := some 100) (v := ?_) rfl rfl (by kernel_rfl) (by kernel_rfl) (by kernel_rfl) (fun _ _ _ h => h) (Or.inl ⟨by rfl, ?_⟩) hHeld2 ?_
                      rotate_left
                      · intro w hSw
                        obtain ⟨s1, s2, s3, s4, s5, s6⟩ := hSw
                        go_simp <;> (with_reducible rfl)
                      try simp only [Act.put, List.setIfInBounds_toArray, List.set_cons_zero, List.set_cons_succ]
                      refine takeD (i := 19) (d := some 101) (v := ?_) rfl rfl (by kernel_rfl) (by kernel_rfl) (by kernel_rfl) (fun _ _ _ h => h) (Or.inl ⟨by rfl, ?_⟩) hHeld2 ?_
                      rotate_left
                      · intro w hSw
                        obtain ⟨s1, s2, s3, s4, s5, s6⟩ := hSw
                        go_simp <;> (with_reducible rfl)
                      try simp only [Act.put, List.setIfInBounds_toArray, List.set_cons_zero, List.set_cons_succ]
                      refine wpAnyH_done (by kernel_rfl) ?_ _
                      try simp only [Act.put, List.setIfInBounds_toArray, List.set_cons_zero, List.set_cons_succ]
                      clear hHeld hHeld2
                      have hnx : wantJ f was n (j + 1) = lw ++ [⟨qn, qt, qc⟩] := by rw [wantJ_succ hjd, if_neg (by rw [hskip]; decide), HLW.out, HS.out]
                      have hstep : ∀ xa xc w3, R.OwnR 24 3 qL w8.heap.size w3 (.slice xa (lw.length + 1) xc) (lw ++ [⟨qn, qt, qc⟩]) → (w9.alloc (.cells #[.string qn, .int .u16 (qt : Nat), .int .u16 (qc : Nat)] 24)).grownBy w3 (Value.slice va lw.length vc).ownBlock → W2R f was n w8 (.slice xa (lw.length + 1) xc) (.int .i64 ((j + 1 : Nat) : Int)) w3 := by
                        intro xa xc w3 h1 h2
                        exact ⟨j + 1, hjd, rfl, by rw [hnx]; exact h1, Chg.grownR ((hck.trans hc9).alloc _) h2 (fun k hk => (HO.out.blk k hk).1)⟩
                      have HSTEP := Lib.hid hstep
                      have HO9 := Lib.hid (HO.out.same hc9)
                      have hsz9 : w8.heap.size ≤ (w9.alloc (.cells #[.string qn, .int .u16 (qt : Nat), .int .u16 (qc : Nat)] 24)).heap.size := ((hck.trans hc9).alloc _).size
                      obtain ⟨d0, d1, d2, _, _, _⟩ := S9.out
                      clear hnx hstep hc9 S0 S9 hskip
                      go_wp2_with (first
                        | (at_builtin; go_must (refine wpList_addQ rfl _ _ rfl w8.heap.size va vc lw ⟨qn, qt, qc⟩ _ rfl rfl (HO9.out.same ((Chg.refl _ _).alloc _)) (heap_new _ _) hlwl hsz9 ?_; intro xa xc w3 h1 h2))
                        | go_in)
                      have HNEW := Lib.hid (HSTEP.out xa xc w3 h1 h2)
                      clear h1 h2 d0 d1 d2
                      go_wp2
                      go_roundw
                      case rel => exact HNEW.out
                      case measure => simp [intOf] <;> omega
                    | false =>
                      obtain ⟨bw, hbw⟩ : ∃ bw, bw = decide (was.length = n) := ⟨_, rfl⟩
                      have tw : ((wl : Int) == (n : Int)) = bw := by rw [hbw, Bool.eq_iff_iff, beq_iff_eq, decide_eq_true_eq, ← HWL.out]; omega
                      rw [← hbw, Bool.not_false, Bool.true_and] at sk0
                      clear hbw hj0
                      cases bw with
                      | true =>
                        have hskip : skipJ f was n j hjd = true := sk0
                        clear sk0
                        go_wp2_with fail
                        refine wp_region_held_drew (S := fun W => W.cell? ⟨g, j * 3, none⟩ = some (.string qn) ∧ W.cell? ⟨g, j * 3 + 1, none⟩ = some (.int .u16 (qt : Nat)) ∧ W.cell? ⟨g, j * 3 + 2, none⟩ = some (.int .u16 (qc : Nat)) ∧ W.cell? ⟨xb, 0, none⟩ = some (.string nm) ∧ W.cell? ⟨xb, 1, none⟩ = some (.int .u16 (ty : Nat)) ∧ W.cell? ⟨xb, 2, none⟩ = some (.int .u16 (cl : Nat))) (by kernel_rfl) (c6_chg S0.out (Chg.refl [] wr).drew) (fun hHeld => ?_)
                        refine takeD (i := 0) (d := some 82) (v := ?_) rfl rfl (by kernel_rfl) (by kernel_rfl) (by kernel_rfl) (fun _ _ _ h => h) (Or.inl ⟨by rfl, ?_⟩) hHeld ?_
                        rotate_left
                        · intro w hSw
                          obtain ⟨s1, s2, s3, s4, s5, s6⟩ := hSw
                          go_simp <;> (with_reducible rfl)
                        try simp only [Act.put, List.setIfInBounds_toArray, List.set_cons_zero, List.set_cons_succ]
                        refine takeD (i := 1) (d := some 83) (v := ?_) rfl rfl (by kernel_rfl) (by kernel_rfl) (by kernel_rfl) (fun _ _ _ h => h) (Or.inl ⟨by rfl, ?_⟩) hHeld ?_
                        rotate_left
                        · intro w hSw
                          obtain ⟨s1, s2, s3, s4, s5, s6⟩ := hSw
                          go_simp <;> (with_reducible rfl)
                        try simp only [Act.put, List.setIfInBounds_toArray, List.set_cons_zero, List.set_cons_succ]
                        refine takeD (i := 2) (d := some 84) (v := ?_) rfl rfl (by kernel_rfl) (by kernel_rfl) (by kernel_rfl) (fun _ _ _ h => h) (Or.inl ⟨by rfl, ?_⟩) hHeld ?_
                        rotate_left
                        · intro w hSw
                          obtain ⟨s1, s2, s3, s4, s5, s6⟩ := hSw
                          go_simp <;> (with_reducible rfl)
                        try simp only [Act.put, List.setIfInBounds_toArray, List.set_cons_zero, List.set_cons_succ]
                        refine takeD (i := 3) (d := some 85) (v := ?_) rfl rfl (by kernel_rfl) (by kernel_rfl) (by kernel_rfl) (fun _ _ _ h => h) (Or.inl ⟨by rfl, ?_⟩) hHeld ?_
                        rotate_left
                        · intro w hSw
                          obtain ⟨s1, s2, s3, s4, s5, s6⟩ := hSw
                          go_simp <;> (with_reducible rfl)
                        try simp only [Act.put, List.setIfInBounds_toArray, List.set_cons_zero, List.set_cons_succ]
                        refine takeD (i := 4) (d := some 86) (v := ?_) rfl rfl (by kernel_rfl) (by kernel_rfl) (by kernel_rfl) (fun _ _ _ h => h) (Or.inl ⟨by rfl, ?_⟩) hHeld ?_
                        rotate_left
                        · intro w hSw
                          obtain ⟨s1, s2, s3, s4, s5, s6⟩ := hSw
                          go_simp <;> (with_reducible rfl)
                        try simp only [Act.put, List.setIfInBounds_toArray, List.set_cons_zero, List.set_cons_succ]
                        refine wpAnyH_ready (rs := [5]) (by kernel_rfl) (by simp) ?_
                        refine AllReadyH.cons rfl (fun K hK => ?_) AllReadyH.nil
                        go_simp
                        refine (equal_any ⟨qn, qt, qc⟩ ⟨nm, ty, cl⟩ false wr.drew hqs (Nat.le_trans hn3 (by decide)) HEV).mono ?_
                        rintro e9 w9 ⟨rfl, hc9⟩
                        replace hc9 := hc9.undrew
                        have S9 := Lib.hid (c6_chg S0.out hc9)
                        go_wp2_with fail
                        refine hK.out _ _ S9.out (fun hHeld2 => ?_)
                        clear hK K
                        try simp only [Act.put, List.setIfInBounds_toArray, List.set_cons_zero, List.set_cons_succ]
                        refine takeD (i := 6) (d := some 88) (v := ?_) rfl rfl (by kernel_rfl) (by kernel_rfl) (by kernel_rfl) (fun _ _ _ h => h) (Or.inl ⟨by rfl, ?_⟩) hHeld2 ?_
                        rotate_left
                        · intro w hSw
                          obtain ⟨s1, s2, s3, s4, s5, s6⟩ := hSw
                          go_simp <;> (with_reducible rfl)
                        try simp only [Act.put, List.setIfInBounds_toArray, List.set_cons_zero, List.set_cons_succ]
                        refine takeD (i := 7) (d := some 89) (v := ?_) rfl rfl (by kernel_rfl) (by kernel_rfl) (by kernel_rfl) (fun _ _ _ h => h) (Or.inl ⟨by rfl, ?_⟩) hHeld2 ?_
                        rotate_left
                        · intro w hSw
                          obtain ⟨s1, s2, s3, s4, s5, s6⟩ := hSw
                          go_simp <;> (with_reducible rfl)
                        try simp only [Act.put, List.setIfInBounds_toArray, List.set_cons_zero, List.set_cons_succ]
                        refine takeD (i := 8) (d := some 90) (v := ?_) rfl rfl (by kernel_rfl) (by kernel_rfl) (by kernel_rfl) (fun _ _ _ h => h) (Or.inl ⟨by rfl, ?_⟩) hHeld2 ?_
                        rotate_left
                        · intro w hSw
                          obtain ⟨s1, s2, s3, s4, s5, s6⟩ := hSw
                          go_simp <;> (with_reducible rfl)
                        try simp only [Act.put, List.setIfInBounds_toArray, List.set_cons_zero, List.set_cons_succ]
                        refine takeD (i := 9) (d := some 91) (v := ?_) rfl rfl (by kernel_rfl) (by kernel_rfl) (by kernel_rfl) (fun _ _ _ h => h) (Or.inl ⟨by rfl, ?_⟩) hHeld2 ?_
                        rotate_left
                        · intro w hSw
                          obtain ⟨s1, s2, s3, s4, s5, s6⟩ := hSw
                          go_simp <;> (with_reducible rfl)
                        try simp only [Act.put, List.setIfInBounds_toArray, List.set_cons_zero, List.set_cons_succ]
                        refine takeD (i := 10) (d := some 92) (v := ?_) rfl rfl (by kernel_rfl) (by kernel_rfl) (by kernel_rfl) (fun _ _ _ h => h) (Or.inl ⟨by rfl, ?_⟩) hHeld2 ?_
                        rotate_left
                        · intro w hSw
                          obtain ⟨s1, s2, s3, s4, s5, s6⟩ := hSw
                          go_simp <;> (with_reducible rfl)
                        try simp only [Act.put, List.setIfInBounds_toArray, List.set_cons_zero, List.set_cons_succ]
                        refine takeD (i := 11) (d := some 93) (v := ?_) rfl rfl (by kernel_rfl) (by kernel_rfl) (by kernel_rfl) (fun _ _ _ h => h) (Or.inl ⟨by rfl, ?_⟩) hHeld2 ?_
                        rotate_left
                        · intro w hSw
                          obtain ⟨s1, s2, s3, s4, s5, s6⟩ := hSw
                          go_simp <;> (with_reducible rfl)
                        try simp only [Act.put, List.setIfInBounds_toArray, List.set_cons_zero, List.set_cons_succ]
                        refine takeD (i := 12) (d := some 94) (v := ?_) rfl rfl (by kernel_rfl) (by kernel_rfl) (by kernel_rfl) (fun _ _ _ h => h) (Or.inl ⟨by rfl, ?_⟩) hHeld2 ?_
                        rotate_left
                        · intro w hSw
                          obtain ⟨s1, s2, s3, s4, s5, s6⟩ := hSw
                          go_simp <;> (with_reducible rfl)
                        try simp only [Act.put, List.setIfInBounds_toArray, List.set_cons_zero, List.set_cons_succ]
                        refine takeD (i := 13) (d := some 95) (v := ?_) rfl rfl (by kernel_rfl) (by kernel_rfl) (by kernel_rfl) (fun _ _ _ h => h) (Or.inl ⟨by rfl, ?_⟩) hHeld2 ?_
                        rotate_left
                        · intro w hSw
                          obtain ⟨s1, s2, s3, s4, s5, s6⟩ := hSw
                          go_simp <;> (with_reducible rfl)
                        try simp only [Act.put, List.setIfInBounds_toArray, List.set_cons_zero, List.set_cons_succ]
                        refine takeD (i := 14) (d := some 96) (v := ?_) rfl rfl (by kernel_rfl) (by kernel_rfl) (by kernel_rfl) (fun _ _ _ h => h) (Or.inl ⟨by rfl, ?_⟩) hHeld2 ?_
                        rotate_left
                        · intro w hSw
                          obtain ⟨s1, s2, s3, s4, s5, s6⟩ := hSw
                          go_simp <;> (with_reducible rfl)
                        try simp only [Act.put, List.setIfInBounds_toArray, List.set_cons_zero, List.set_cons_succ]
                        refine takeD (i := 15) (d := some 97) (v := ?_) rfl rfl (by kernel_rfl) (by kernel_rfl) (by kernel_rfl) (fun _ _ _ h => h) (Or.inl ⟨by rfl, ?_⟩) hHeld2 ?_
                        rotate_left
                        · intro w hSw
                          obtain ⟨s1, s2, s3, s4, s5, s6⟩ := hSw
                          go_simp <;> (with_reducible rfl)
                        try simp only [Act.put, List.setIfInBounds_toArray, List.set_cons_zero, List.set_cons_succ]
                        refine takeD (i := 16) (d := some 98) (v := ?_) rfl rfl (by kernel_rfl) (by kernel_rfl) (by kernel_rfl) (fun _ _ _ h => h) (Or.inl ⟨by rfl, ?_⟩) hHeld2 ?_
                        rotate_left
                        · intro w hSw
                          obtain ⟨s1, s2, s3, s4, s5, s6⟩ := hSw
                          go_simp <;> (with_reducible rfl)
                        try simp only [Act.put, List.setIfInBounds_toArray, List.set_cons_zero, List.set_cons_succ]
                        refine takeD (i := 17) (d := some 99) (v := ?_) rfl rfl (by kernel_rfl) (by kernel_rfl) (by kernel_rfl) (fun _ _ _ h => h) (Or.inl ⟨by rfl, ?_⟩) hHeld2 ?_
                        rotate_left
                        · intro w hSw
                          obtain ⟨s1, s2, s3, s4, s5, s6⟩ := hSw
                          go_simp <;> (with_reducible rfl)
                        try simp only [Act.put, List.setIfInBounds_toArray, List.set_cons_zero, List.set_cons_succ]
                        refine takeD (i := 18) (d := some 100) (v := ?_) rfl rfl (by kernel_rfl) (by kernel_rfl) (by kernel_rfl) (fun _ _ _ h => h) (Or.inl ⟨by rfl, ?_⟩) hHeld2 ?_
                        rotate_left
                        · intro w hSw
                          obtain ⟨s1, s2, s3, s4, s5, s6⟩ := hSw
                          go_simp <;> (with_reducible rfl)
                        try simp only [Act.put, List.setIfInBounds_toArray, List.set_cons_zero, List.set_cons_succ]
                        refine takeD (i := 19) (d := some 101) (v := ?_) rfl rfl (by kernel_rfl) (by kernel_rfl) (by kernel_rfl) (fun _ _ _ h => h) (Or.inl ⟨by rfl, ?_⟩) hHeld2 ?_
                        rotate_left
                        · intro w hSw
                          obtain ⟨s1, s2, s3, s4, s5, s6⟩ := hSw
                          go_simp <;> (with_reducible rfl)
                        try simp only [Act.put, List.setIfInBounds_toArray, List.set_cons_zero, List.set_cons_succ]
                        refine wpAnyH_done (by kernel_rfl) ?_ _
                        try simp only [Act.put, List.setIfInBounds_toArray, List.set_cons_zero, List.set_cons_succ]
                        clear hHeld hHeld2
                        have hnx : wantJ f was n (j + 1) = lw := by rw [wantJ_succ hjd, if_pos hskip, HLW.out]
                        have hnew : W2R f was n w8 (.slice va lw.length vc) (.int .i64 ((j + 1 : Nat) : Int)) w9 := ⟨j + 1, hjd, rfl, by rw [hnx]; exact HO.out.same hc9, hck.trans hc9⟩
                        have HNEW := Lib.hid hnew
                        clear hnx hnew hc9 S0 S9 hskip
                        go_wp2
                        go_roundw
                        case rel => exact HNEW.out
                        case measure => simp [intOf] <;> omega
                      | false =>
                        have hskip : skipJ f was n j hjd = false := sk0
                        clear sk0
                        go_wp2_with fail
                        refine wp_region_held_drew (S := fun W => W.cell? ⟨g, j * 3, none⟩ = some (.string qn) ∧ W.cell? ⟨g, j * 3 + 1, none⟩ = some (.int .u16 (qt : Nat)) ∧ W.cell? ⟨g, j * 3 + 2, none⟩ = some (.int .u16 (qc : Nat)) ∧ W.cell? ⟨xb, 0, none⟩ = some (.string nm) ∧ W.cell? ⟨xb, 1, none⟩ = some (.int .u16 (ty : Nat)) ∧ W.cell? ⟨xb, 2, none⟩ = some (.int .u16 (cl : Nat))) (by kernel_rfl) (c6_chg S0.out (Chg.refl [] wr).drew) (fun hHeld => ?_)
                        refine takeD (i := 0) (d := some 82) (v := ?_) rfl rfl (by kernel_rfl) (by kernel_rfl) (by kernel_rfl) (fun _ _ _ h => h) (Or.inl ⟨by rfl, ?_⟩) hHeld ?_
                        rotate_left
                        · intro w hSw
                          obtain ⟨s1, s2, s3, s4, s5, s6⟩ := hSw
                          go_simp <;> (with_reducible rfl)
                        try simp only [Act.put, List.setIfInBounds_toArray, List.set_cons_zero, List.set_cons_succ]
                        refine takeD (i := 1) (d := some 83) (v := ?_) rfl rfl (by kernel_rfl) (by kernel_rfl) (by kernel_rfl) (fun _ _ _ h => h) (Or.inl ⟨by rfl, ?_⟩) hHeld ?_
                        rotate_left
                        · intro w hSw
                          obtain ⟨s1, s2, s3, s4, s5, s6⟩ := hSw
                          go_simp <;> (with_reducible rfl)
                        try simp only [Act.put, List.setIfInBounds_toArray, List.set_cons_zero, List.set_cons_succ]
                        refine takeD (i := 2) (d := some 84) (v := ?_) rfl rfl (by kernel_rfl) (by kernel_rfl) (by kernel_rfl) (fun _ _ _ h => h) (Or.inl ⟨by rfl, ?_⟩) hHeld ?_
                        rotate_left
                        · intro w hSw
                          obtain ⟨s1, s2, s3, s4, s5, s6⟩ := hSw
                          go_simp <;> (with_reducible rfl)
                        try simp only [Act.put, List.setIfInBounds_toArray, List.set_cons_zero, List.set_cons_succ]
                        refine takeD (i := 3) (d := some 85) (v := ?_) rfl rfl (by kernel_rfl) (by kernel_rfl) (by kernel_rfl) (fun _ _ _ h => h) (Or.inl ⟨by rfl, ?_⟩) hHeld ?_
                        rotate_left
                        · intro w hSw
                          obtain ⟨s1, s2, s3, s4, s5, s6⟩ := hSw
                          go_simp <;> (with_reducible rfl)
                        try simp only [Act.put, List.setIfInBounds_toArray, List.set_cons_zero, List.set_cons_succ]
                        refine takeD (i := 4) (d := some 86) (v := ?_) rfl rfl (by kernel_rfl) (by kernel_rfl) (by kernel_rfl) (fun _ _ _ h => h) (Or.inl ⟨by rfl, ?_⟩) hHeld ?_
                        rotate_left
                        · intro w hSw
                          obtain ⟨s1, s2, s3, s4, s5, s6⟩ := hSw
                          go_simp <;> (with_reducible rfl)
                        try simp only [Act.put, List.setIfInBounds_toArray, List.set_cons_zero, List.set_cons_succ]
                        refine wpAnyH_ready (rs := [5]) (by kernel_rfl) (by simp) ?_
                        refine AllReadyH.cons rfl (fun K hK => ?_) AllReadyH.nil
                        go_simp
                        refine (equal_any ⟨qn, qt, qc⟩ ⟨nm, ty, cl⟩ false wr.drew hqs (Nat.le_trans hn3 (by decide)) HEV).mono ?_
                        rintro e9 w9 ⟨rfl, hc9⟩
                        replace hc9 := hc9.undrew
                        have S9 := Lib.hid (c6_chg S0.out hc9)
                        go_wp2_with fail
                        refine hK.out _ _ S9.out (fun hHeld2 => ?_)
                        clear hK K
                        try simp only [Act.put, List.setIfInBounds_toArray, List.set_cons_zero, List.set_cons_succ]
                        refine takeD (i := 6) (d := some 88) (v := ?_) rfl rfl (by kernel_rfl) (by kernel_rfl) (by kernel_rfl) (fun _ _ _ h => h) (Or.inl ⟨by rfl, ?_⟩) hHeld2 ?_
                        rotate_left
                        · intro w hSw
                          obtain ⟨s1, s2, s3, s4, s5, s6⟩ := hSw
                          go_simp <;> (with_reducible rfl)
                        try simp only [Act.put, List.setIfInBounds_toArray, List.set_cons_zero, List.set_cons_succ]
                        refine takeD (i := 7) (d := some 89) (v := ?_) rfl rfl (by kernel_rfl) (by kernel_rfl) (by kernel_rfl) (fun _ _ _ h => h) (Or.inl ⟨by rfl, ?_⟩) hHeld2 ?_
                        rotate_left
                        · intro w hSw
                          obtain ⟨s1, s2, s3, s4, s5, s6⟩ := hSw
                          go_simp <;> (with_reducible rfl)
                        try simp only [Act.put, List.setIfInBounds_toArray, List.set_cons_zero, List.set_cons_succ]
                        refine takeD (i := 8) (d := some 90) (v := ?_) rfl rfl (by kernel_rfl) (by kernel_rfl) (by kernel_rfl) (fun _ _ _ h => h) (Or.inl ⟨by rfl, ?_⟩) hHeld2 ?_
                        rotate_left
                        · intro w hSw
                          obtain ⟨s1, s2, s3, s4, s5, s6⟩ := hSw
                          go_simp <;> (with_reducible rfl)
                        try simp only [Act.put, List.setIfInBounds_toArray, List.set_cons_zero, List.set_cons_succ]
                        refine takeD (i := 9) (d := some 91) (v := ?_) rfl rfl (by kernel_rfl) (by kernel_rfl) (by kernel_rfl) (fun _ _ _ h => h) (Or.inl ⟨by rfl, ?_⟩) hHeld2 ?_
                        rotate_left
                        · intro w hSw
                          obtain ⟨s1, s2, s3, s4, s5, s6⟩ := hSw
                          go_simp <;> (with_reducible rfl)
                        try simp only [Act.put, List.setIfInBounds_toArray, List.set_cons_zero, List.set_cons_succ]
                        refine takeD (i := 10) (d := some 92) (v := ?_) rfl rfl (by kernel_rfl) (by kernel_rfl) (by kernel_rfl) (fun _ _ _ h => h) (Or.inl ⟨by rfl, ?_⟩) hHeld2 ?_
                        rotate_left
                        · intro w hSw
                          obtain ⟨s1, s2, s3, s4, s5, s6⟩ := hSw
                          go_simp <;> (with_reducible rfl)
                        try simp only [Act.put, List.setIfInBounds_toArray, List.set_cons_zero, List.set_cons_succ]
                        refine takeD (i := 11) (d := some 93) (v := ?_) rfl rfl (by kernel_rfl) (by kernel_rfl) (by kernel_rfl) (fun _ _ _ h => h) (Or.inl ⟨by rfl, ?_⟩) hHeld2 ?_
                        rotate_left
                        · intro w hSw
                          obtain ⟨s1, s2, s3, s4, s5, s6⟩ := hSw
                          go_simp <;> (with_reducible rfl)
                        try simp only [Act.put, List.setIfInBounds_toArray, List.set_cons_zero, List.set_cons_succ]
                        refine takeD (i := 12) (d := some 94) (v := ?_) rfl rfl (by kernel_rfl) (by kernel_rfl) (by kernel_rfl) (fun _ _ _ h => h) (Or.inl ⟨by rfl, ?_⟩) hHeld2 ?_
                        rotate_left
                        · intro w hSw
                          obtain ⟨s1, s2, s3, s4, s5, s6⟩ := hSw
                          go_simp <;> (with_reducible rfl)
                        try simp only [Act.put, List.setIfInBounds_toArray, List.set_cons_zero, List.set_cons_succ]
                        refine takeD (i := 13) (d := some 95) (v := ?_) rfl rfl (by kernel_rfl) (by kernel_rfl) (by kernel_rfl) (fun _ _ _ h => h) (Or.inl ⟨by rfl, ?_⟩) hHeld2 ?_
                        rotate_left
                        · intro w hSw
                          obtain ⟨s1, s2, s3, s4, s5, s6⟩ := hSw
                          go_simp <;> (with_reducible rfl)
                        try simp only [Act.put, List.setIfInBounds_toArray, List.set_cons_zero, List.set_cons_succ]
                        refine takeD (i := 14) (d := some 96) (v := ?_) rfl rfl (by kernel_rfl) (by kernel_rfl) (by kernel_rfl) (fun _ _ _ h => h) (Or.inl ⟨by rfl, ?_⟩) hHeld2 ?_
                        rotate_left
                        · intro w hSw
                          obtain ⟨s1, s2, s3, s4, s5, s6⟩ := hSw
                          go_simp <;> (with_reducible rfl)
                        try simp only [Act.put, List.setIfInBounds_toArray, List.set_cons_zero, List.set_cons_succ]
                        refine takeD (i := 15) (d := some 97) (v := ?_) rfl rfl (by kernel_rfl) (by kernel_rfl) (by kernel_rfl) (fun _ _ _ h => h) (Or.inl ⟨by rfl, ?_⟩) hHeld2 ?_
                        rotate_left
                        · intro w hSw
                          obtain ⟨s1, s2, s3, s4, s5, s6⟩ := hSw
                          go_simp <;> (with_reducible rfl)
                        try simp only [Act.put, List.setIfInBounds_toArray, List.set_cons_zero, List.set_cons_succ]
                        refine takeD (i := 16) (d := some 98) (v := ?_) rfl rfl (by kernel_rfl) (by kernel_rfl) (by kernel_rfl) (fun _ _ _ h => h) (Or.inl ⟨by rfl, ?_⟩) hHeld2 ?_
                        rotate_left
                        · intro w hSw
                          obtain ⟨s1, s2, s3, s4, s5, s6⟩ := hSw
                          go_simp <;> (with_reducible rfl)
                        try simp only [Act.put, List.setIfInBounds_toArray, List.set_cons_zero, List.set_cons_succ]
                        refine takeD (i := 17) (d := some 99) (v := ?_) rfl rfl (by kernel_rfl) (by kernel_rfl) (by kernel_rfl) (fun _ _ _ h => h) (Or.inl ⟨by rfl, ?_⟩) hHeld2 ?_
                        rotate_left
                        · intro w hSw
                          obtain ⟨s1, s2, s3, s4, s5, s6⟩ := hSw
                          go_simp <;> (with_reducible rfl)
                        try simp only [Act.put, List.setIfInBounds_toArray, List.set_cons_zero, List.set_cons_succ]
                        refine takeD (i := 18) (d := some 100) (v := ?_) rfl rfl (by kernel_rfl) (by kernel_rfl) (by kernel_rfl) (fun _ _ _ h => h) (Or.inl ⟨by rfl, ?_⟩) hHeld2 ?_
                        rotate_left
                        · intro w hSw
                          obtain ⟨s1, s2, s3, s4, s5, s6⟩ := hSw
                          go_simp <;> (with_reducible rfl)
                        try simp only [Act.put, List.setIfInBounds_toArray, List.set_cons_zero, List.set_cons_succ]
                        refine takeD (i := 19) (d := some 101) (v := ?_) rfl rfl (by kernel_rfl) (by kernel_rfl) (by kernel_rfl) (fun _ _ _ h => h) (Or.inl ⟨by rfl, ?_⟩) hHeld2 ?_
                        rotate_left
                        · intro w hSw
                          obtain ⟨s1, s2, s3, s4, s5, s6⟩ := hSw
                          go_simp <;> (with_reducible rfl)
                        try simp only [Act.put, List.setIfInBounds_toArray, List.set_cons_zero, List.set_cons_succ]
                        refine wpAnyH_done (by kernel_rfl) ?_ _
                        try simp only [Act.put, List.setIfInBounds_toArray, List.set_cons_zero, List.set_cons_succ]
                        clear hHeld hHeld2
                        have hnx : wantJ f was n (j + 1) = lw ++ [⟨qn, qt, qc⟩] := by rw [wantJ_succ hjd, if_neg (by rw [hskip]; decide), HLW.out, HS.out]
                        have hstep : ∀ xa xc w3, R.OwnR 24 3 qL w8.heap.size w3 (.slice xa (lw.length + 1) xc) (lw ++ [⟨qn, qt, qc⟩]) → (w9.alloc (.cells #[.string qn, .int .u16 (qt : Nat), .int .u16 (qc : Nat)] 24)).grownBy w3 (Value.slice va lw.length vc).ownBlock → W2R f was n w8 (.slice xa (lw.length + 1) xc) (.int .i64 ((j + 1 : Nat) : Int)) w3 := by
                          intro xa xc w3 h1 h2
                          exact ⟨j + 1, hjd, rfl, by rw [hnx]; exact h1, Chg.grownR ((hck.trans hc9).alloc _) h2 (fun k hk => (HO.out.blk k hk).1)⟩
                        have HSTEP := Lib.hid hstep
                        have HO9 := Lib.hid (HO.out.same hc9)
                        have hsz9 : w8.heap.size ≤ (w9.alloc (.cells #[.string qn, .int .u16 (qt : Nat), .int .u16 (qc : Nat)] 24)).heap.size := ((hck.trans hc9).alloc _).size
                        obtain ⟨d0, d1, d2, _, _, _⟩ := S9.out
                        clear hnx hstep hc9 S0 S9 hskip
                        go_wp2_with (first
                          | (at_builtin; go_must (refine wpList_addQ rfl _ _ rfl w8.heap.size va vc lw ⟨qn, qt, qc⟩ _ rfl rfl (HO9.out.same ((Chg.refl _ _).alloc _)) (heap_new _ _) hlwl hsz9 ?_; intro xa xc w3 h1 h2))
                          | go_in)
                        have HNEW := Lib.hid (HSTEP.out xa xc w3 h1 h2)
                        clear h1 h2 d0 d1 d2
                        go_wp2
                        go_roundw
                        case rel => exact HNEW.out
                        case measure => simp [intOf] <;> omega
                  · have tj : ((j : Int) == 0) = false := by rw [beq_eq_false_iff_ne]; omega
                    have hskip : skipJ f was n j hjd = false := by rw [sk0, decide_eq_false hj0]; rfl
                    clear sk0 hj0
                    go_wp2_with fail
                    refine wp_region_held_drew (S := fun W => W.cell? ⟨g, j * 3, none⟩ = some (.string qn) ∧ W.cell? ⟨g, j * 3 + 1, none⟩ = some (.int .u16 (qt : Nat)) ∧ W.cell? ⟨g, j * 3 + 2, none⟩ = some (.int .u16 (qc : Nat)) ∧ W.cell? ⟨xb, 0, none⟩ = some (.string nm) ∧ W.cell? ⟨xb, 1, none⟩ = some (.int .u16 (ty : Nat)) ∧ W.cell? ⟨xb, 2, none⟩ = some (.int .u16 (cl : Nat))) (by kernel_rfl) (c6_chg S0.out (Chg.refl [] wr).drew) (fun hHeld => ?_)
                    refine takeD (i := 0) (d := some 82) (v := ?_) rfl rfl (by kernel_rfl) (by kernel_rfl) (by kernel_rfl) (fun _ _ _ h => h) (Or.inl ⟨by rfl, ?_⟩) hHeld ?_
                    rotate_left
                    · intro w hSw
                      obtain ⟨s1, s2, s3, s4, s5, s6⟩ := hSw
                      go_simp <;> (with_reducible rfl)
                    try simp only [Act.put, List.setIfInBounds_toArray, List.set_cons_zero, List.set_cons_succ]
                    refine takeD (i := 1) (d := some 83) (v := ?_) rfl rfl (by kernel_rfl) (by kernel_rfl) (by kernel_rfl) (fun _ _ _ h => h) (Or.inl ⟨by rfl, ?_⟩) hHeld ?_
                    rotate_left
                    · intro w hSw
                      obtain ⟨s1, s2, s3, s4, s5, s6⟩ := hSw
                      go_simp <;> (with_reducible rfl)
                    try simp only [Act.put, List.setIfInBounds_toArray, List.set_cons_zero, List.set_cons_succ]
                    refine takeD (i := 2) (d := some 84) (v := ?_) rfl rfl (by kernel_rfl) (by kernel_rfl) (by kernel_rfl) (fun _ _ _ h => h) (Or.inl ⟨by rfl, ?_⟩) hHeld ?_
                    rotate_left
                    · intro w hSw
                      obtain ⟨s1, s2, s3, s4, s5, s6⟩ := hSw
                      go_simp <;> (with_reducible rfl)
                    try simp only [Act.put, List.setIfInBounds_toArray, List.set_cons_zero, List.set_cons_succ]
                    refine takeD (i := 3) (d := some 85) (v := ?_) rfl rfl (by kernel_rfl) (by kernel_rfl) (by kernel_rfl) (fun _ _ _ h => h) (Or.inl ⟨by rfl, ?_⟩) hHeld ?_
                    rotate_left
                    · intro w hSw
                      obtain ⟨s1, s2, s3, s4, s5, s6⟩ := hSw
                      go_simp <;> (with_reducible rfl)
                    try simp only [Act.put, List.setIfInBounds_toArray, List.set_cons_zero, List.set_cons_succ]
                    refine takeD (i := 4) (d := some 86) (v := ?_) rfl rfl (by kernel_rfl) (by kernel_rfl) (by kernel_rfl) (fun _ _ _ h => h) (Or.inl ⟨by rfl, ?_⟩) hHeld ?_
                    rotate_left
                    · intro w hSw
                      obtain ⟨s1, s2, s3, s4, s5, s6⟩ := hSw
                      go_simp <;> (with_reducible rfl)
                    try simp only [Act.put, List.setIfInBounds_toArray, List.set_cons_zero, List.set_cons_succ]
                    refine wpAnyH_ready (rs := [5]) (by kernel_rfl) (by simp) ?_
                    refine AllReadyH.cons rfl (fun K hK => ?_) AllReadyH.nil
                    go_simp
                    refine (equal_any ⟨qn, qt, qc⟩ ⟨nm, ty, cl⟩ false wr.drew hqs (Nat.le_trans hn3 (by decide)) HEV).mono ?_
                    rintro e9 w9 ⟨rfl, hc9⟩
                    replace hc9 := hc9.undrew
                    have S9 := Lib.hid (c6_chg S0.out hc9)
                    go_wp2_with fail
                    refine hK.out _ _ S9.out (fun hHeld2 => ?_)
                    clear hK K
                    try simp only [Act.put, List.setIfInBounds_toArray, List.set_cons_zero, List.set_cons_succ]
                    refine takeD (i := 6) (d := some 88) (v := ?_) rfl rfl (by kernel_rfl) (by kernel_rfl) (by kernel_rfl) (fun _ _ _ h => h) (Or.inl ⟨by rfl, ?_⟩) hHeld2 ?_
                    rotate_left
                    · intro w hSw
                      obtain ⟨s1, s2, s3, s4, s5, s6⟩ := hSw
                      go_simp <;> (with_reducible rfl)
                    try simp only [Act.put, List.setIfInBounds_toArray, List.set_cons_zero, List.set_cons_succ]
                    refine takeD (i := 7) (d := some 89) (v := ?_) rfl rfl (by kernel_rfl) (by kernel_rfl) (by kernel_rfl) (fun _ _ _ h => h) (Or.inl ⟨by rfl, ?_⟩) hHeld2 ?_
                    rotate_left
                    · intro w hSw
                      obtain ⟨s1, s2, s3, s4, s5, s6⟩ := hSw
                      go_simp <;> (with_reducible rfl)
                    try simp only [Act.put, List.setIfInBounds_toArray, List.set_cons_zero, List.set_cons_succ]
                    refine takeD (i := 8) (d := some 90) (v := ?_) rfl rfl (by kernel_rfl) (by kernel_rfl) (by kernel_rfl) (fun _ _ _ h => h) (Or.inl ⟨by rfl, ?_⟩) hHeld2 ?_
                    rotate_left
                    · intro w hSw
                      obtain ⟨s1, s2, s3, s4, s5, s6⟩ := hSw
                      go_simp <;> (with_reducible rfl)
                    try simp only [Act.put, List.setIfInBounds_toArray, List.set_cons_zero, List.set_cons_succ]
                    refine takeD (i := 9) (d := some 91) (v := ?_) rfl rfl (by kernel_rfl) (by kernel_rfl) (by kernel_rfl) (fun _ _ _ h => h) (Or.inl ⟨by rfl, ?_⟩) hHeld2 ?_
                    rotate_left
                    · intro w hSw
                      obtain ⟨s1, s2, s3, s4, s5, s6⟩ := hSw
                      go_simp <;> (with_reducible rfl)
                    try simp only [Act.put, List.setIfInBounds_toArray, List.set_cons_zero, List.set_cons_succ]
                    refine takeD (i := 10) (d := some 92) (v := undef) rfl rfl (by kernel_rfl) (by kernel_rfl) (by kernel_rfl) (fun _ _ _ h => h) (Or.inr ⟨by rfl, rfl⟩) hHeld2 ?_
                    try simp only [Act.put, List.setIfInBounds_toArray, List.set_cons_zero, List.set_cons_succ]
                    refine takeD (i := 11) (d := some 93) (v := undef) rfl rfl (by kernel_rfl) (by kernel_rfl) (by kernel_rfl) (fun _ _ _ h => h) (Or.inr ⟨by rfl, rfl⟩) hHeld2 ?_
                    try simp only [Act.put, List.setIfInBounds_toArray, List.set_cons_zero, List.set_cons_succ]
                    refine takeD (i := 12) (d := some 94) (v := ?_) rfl rfl (by kernel_rfl) (by kernel_rfl) (by kernel_rfl) (fun _ _ _ h => h) (Or.inl ⟨by rfl, ?_⟩) hHeld2 ?_
                    rotate_left
                    · intro w hSw
                      obtain ⟨s1, s2, s3, s4, s5, s6⟩ := hSw
                      go_simp <;> (with_reducible rfl)
                    try simp only [Act.put, List.setIfInBounds_toArray, List.set_cons_zero, List.set_cons_succ]
                    refine takeD (i := 13) (d := some 95) (v := ?_) rfl rfl (by kernel_rfl) (by kernel_rfl) (by kernel_rfl) (fun _ _ _ h => h) (Or.inl ⟨by rfl, ?_⟩) hHeld2 ?_
                    rotate_left
                    · intro w hSw
                      obtain ⟨s1, s2, s3, s4, s5, s6⟩ := hSw
                      go_simp <;> (with_reducible rfl)
                    try simp only [Act.put, List.setIfInBounds_toArray, List.set_cons_zero, List.set_cons_succ]
                    refine takeD (i := 14) (d := some 96) (v := undef) rfl rfl (by kernel_rfl) (by kernel_rfl) (by kernel_rfl) (fun _ _ _ h => h) (Or.inr ⟨by rfl, rfl⟩) hHeld2 ?_
                    try simp only [Act.put, List.setIfInBounds_toArray, List.set_cons_zero, List.set_cons_succ]
                    refine takeD (i := 15) (d := some 97) (v := undef) rfl rfl (by kernel_rfl) (by kernel_rfl) (by kernel_rfl) (fun _ _ _ h => h) (Or.inr ⟨by rfl, rfl⟩) hHeld2 ?_
                    try simp only [Act.put, List.setIfInBounds_toArray, List.set_cons_zero, List.set_cons_succ]
                    refine takeD (i := 16) (d := some 98) (v := undef) rfl rfl (by kernel_rfl) (by kernel_rfl) (by kernel_rfl) (fun _ _ _ h => h) (Or.inr ⟨by rfl, rfl⟩) hHeld2 ?_
                    try simp only [Act.put, List.setIfInBounds_toArray, List.set_cons_zero, List.set_cons_succ]
                    refine takeD (i := 17) (d := some 99) (v := undef) rfl rfl (by kernel_rfl) (by kernel_rfl) (by kernel_rfl) (fun _ _ _ h => h) (Or.inr ⟨by rfl, rfl⟩) hHeld2 ?_
                    try simp only [Act.put, List.setIfInBounds_toArray, List.set_cons_zero, List.set_cons_succ]
                    refine takeD (i := 18) (d := some 100) (v := ?_) rfl rfl (by kernel_rfl) (by kernel_rfl) (by kernel_rfl) (fun _ _ _ h => h) (Or.inl ⟨by rfl, ?_⟩) hHeld2 ?_
                    rotate_left
                    · intro w hSw
                      obtain ⟨s1, s2, s3, s4, s5, s6⟩ := hSw
                      go_simp <;> (with_reducible rfl)
                    try simp only [Act.put, List.setIfInBounds_toArray, List.set_cons_zero, List.set_cons_succ]
                    refine takeD (i := 19) (d := some 101) (v := ?_) rfl rfl (by kernel_rfl) (by kernel_rfl) (by kernel_rfl) (fun _ _ _ h => h) (Or.inl ⟨by rfl, ?_⟩) hHeld2 ?_
                    rotate_left
                    · intro w hSw
                      obtain ⟨s1, s2, s3, s4, s5, s6⟩ := hSw
                      go_simp <;> (with_reducible rfl)
                    try simp only [Act.put, List.setIfInBounds_toArray, List.set_cons_zero, List.set_cons_succ]
                    refine wpAnyH_done (by kernel_rfl) ?_ _
                    try simp only [Act.put, List.setIfInBounds_toArray, List.set_cons_zero, List.set_cons_succ]
                    clear hHeld hHeld2
                    have hnx : wantJ f was n (j + 1) = lw ++ [⟨qn, qt, qc⟩] := by rw [wantJ_succ hjd, if_neg (by rw [hskip]; decide), HLW.out, HS.out]
                    have hstep : ∀ xa xc w3, R.OwnR 24 3 qL w8.heap.size w3 (.slice xa (lw.length + 1) xc) (lw ++ [⟨qn, qt, qc⟩]) → (w9.alloc (.cells #[.string qn, .int .u16 (qt : Nat), .int .u16 (qc : Nat)] 24)).grownBy w3 (Value.slice va lw.length vc).ownBlock → W2R f was n w8 (.slice xa (lw.length + 1) xc) (.int .i64 ((j + 1 : Nat) : Int)) w3 := by
                      intro xa xc w3 h1 h2
                      exact ⟨j + 1, hjd, rfl, by rw [hnx]; exact h1, Chg.grownR ((hck.trans hc9).alloc _) h2 (fun k hk => (HO.out.blk k hk).1)⟩
                    have HSTEP := Lib.hid hstep
                    have HO9 := Lib.hid (HO.out.same hc9)
                    have hsz9 : w8.heap.size ≤ (w9.alloc (.cells #[.string qn, .int .u16 (qt : Nat), .int .u16 (qc : Nat)] 24)).heap.size := ((hck.trans hc9).alloc _).size
                    obtain ⟨d0, d1, d2, _, _, _⟩ := S9.out
                    clear hnx hstep hc9 S0 S9 hskip
                    go_wp2_with (first
                      | (at_builtin; go_must (refine wpList_addQ rfl _ _ rfl w8.heap.size va vc lw ⟨qn, qt, qc⟩ _ rfl rfl (HO9.out.same ((Chg.refl _ _).alloc _)) (heap_new _ _) hlwl hsz9 ?_; intro xa xc w3 h1 h2))
                      | go_in)
                    have HNEW := Lib.hid (HSTEP.out xa xc w3 h1 h2)
                    clear h1 h2 d0 d1 d2
                    go_wp2
                    go_roundw
                    case rel => exact HNEW.out
                    case measure => simp [intOf] <;> omega
              · have hjw2 : wl = j := by omega
                subst hjw2
                have hlwf : lw = wantJ f was n was.length := by rw [HLW.out, HWL.out]
                have hm2 : c2.M.map (·.q) = lw ++ [f] := by rw [hlwf]; exact HM2.out
                have hok2 := HT8.out.ok (i := 0) rfl
                have hl2 : lw.length + 1 ≤ n := by
                  have h1 := congrArg List.length hm2
                  rw [List.length_map, List.length_append, List.length_singleton] at h1
                  rw [← h1]
                  exact hok2.len
                have hoq2 : ∀ q ∈ lw ++ [f], OkQ q := by rw [← hm2]; exact hok2.okq
                have hlen2 : lw.length + 1 = c2.M.length := by
                  have h1 := congrArg List.length hm2
                  rw [List.length_map, List.length_append, List.length_singleton] at h1
                  exact h1.symm
                obtain ⟨fn, hfn⟩ : ∃ fn, fn = foldS nm := ⟨_, rfl⟩
                have hff : f = ⟨fn, ty, cl⟩ := by rw [HF.out, hfn]; rfl
                have HFF := Lib.hid hff
                have HFN := Lib.hid hfn
                have HM3 := Lib.hid hm2
                have HOQ2 := Lib.hid hoq2
                have HLEN2 := Lib.hid hlen2
                have HL2 := Lib.hid hl2
                obtain ⟨z0, z1, z2⟩ := (HX8.out.same hck).c3
                simp only at z0 z1 z2
                have HCK := Lib.hid hck
                have zA := ((Chg.refl [] wr).alloc (.cells #[.string nm, .int .u16 (ty : Nat), .int .u16 (cl : Nat)] 24)).cell z0 (by simp)
                clear hlwf hm2 hok2 hl2 hoq2 hlen2 hfn hff hck
                go_wp2_with fail
                obtain ⟨fb, hfb⟩ : ∃ fb, fb = wr.heap.size := ⟨_, rfl⟩
                rw [← hfb]
                refine calls_abs ?_
                intro w10 hw10
                have hc10 : Chg [] wr w10 := by rw [hw10]; exact (Chg.refl _ _).alloc _
                have hY10 : QAt w10 fb ⟨nm, ty, cl⟩ := by unfold QAt; rw [hw10, hfb]; exact heap_new _ _
                have hbelow : ∀ g, (Value.slice va lw.length vc).ownBlock = some g → g ≠ fb := fun g hg => by have := (HO.out.blk g hg).2.1; omega
                have hfbs : w8.heap.size ≤ fb := by rw [hfb]; exact HCK.out.size
                have HY10 := Lib.hid hY10
                have HC10 := Lib.hid hc10
                have HBEL := Lib.hid hbelow
                have HFBS := Lib.hid hfbs
                clear hw10 hc10 hY10 hbelow hfbs hfb z0 z1 z2 zA
                refine (fold_any nm fn w10 hq1 HFN).mono ?_
                rintro e9 w11 ⟨rfl, hc11⟩
                have hY11 := HY10.out.same hc11
                unfold QAt at hY11
                simp only at hY11
                have y0 : w11.cell? ⟨fb, 0, none⟩ = some (.string nm) := cell_of hY11
                have y1 : w11.cell? ⟨fb, 1, none⟩ = some (.int .u16 (ty : Nat)) := cell_of hY11
                have y2 : w11.cell? ⟨fb, 2, none⟩ = some (.int .u16 (cl : Nat)) := cell_of hY11
                have f0 : w11.frozen? ⟨fb, 0, none⟩ = false := free_of hY11
                have hst : Chg [fb] w11 (w11.setCell ⟨fb, 0, none⟩ (.string fn)) := Chg.set1 _ _ _ _
                have how : R.OwnR 24 3 qL w8.heap.size (w11.setCell ⟨fb, 0, none⟩ (.string fn)) (.slice va lw.length vc) lw := ((HO.out.same HC10.out).same hc11).chg hst (fun g hg hs => by simp at hs; exact HBEL.out g hg hs)
                have hcw : Chg [] w8 (w11.setCell ⟨fb, 0, none⟩ (.string fn)) := ((HCK.out.trans HC10.out).trans hc11).trans_new hst (by intro y hy; simp at hy; rw [hy]; exact .inr HFBS.out)
                have hszw : w8.heap.size ≤ ((w11.setCell ⟨fb, 0, none⟩ (.string fn)).alloc (.cells #[.string fn, .int .u16 (ty : Nat), .int .u16 (cl : Nat)] 24)).heap.size := (hcw.alloc _).size
                have HOW := Lib.hid how
                have HCW := Lib.hid hcw
                clear how hcw hst hc11 hY11
                go_wp2_with (first
                  | (at_builtin; go_must (refine wpList_addQ rfl _ _ rfl w8.heap.size va vc lw ⟨fn, ty, cl⟩ _ rfl rfl (HOW.out.same ((Chg.refl _ _).alloc _)) (heap_new' _ _ _ (by simp)) hlwl hszw ?_; intro xa xc w12 h1 h2))
                  | fail)
                have hc12 : Chg [] w8 w12 := Chg.grownR (HCW.out.alloc _) h2 (fun k hk => (HOW.out.blk k hk).1)
                have HT12 := Lib.hid (HT8.out.same hc12)
                have HW12 : Hid (R.OwnR 24 3 qL w8.heap.size w12 (.slice xa (lw.length + 1) xc) (lw ++ [f])) := Lib.hid (by rw [HFF.out]; exact h1)
                obtain ⟨ln, hln⟩ : ∃ ln, ln = lw.length + 1 := ⟨_, rfl⟩
                rw [← hln] at HW12 ⊢
                have HLN := Lib.hid hln
                have tle : decide ((ln : Int) ≤ (n : Int)) = true := by rw [decide_eq_true_eq, hln]; have := HL2.out; omega
                have tlen : decide (ln ≤ n) = true := by rw [decide_eq_true_eq, hln]; exact HL2.out
                clear h1 h2 hc12 hln y0 y1 y2 f0 hszw HT8
                refine (row_c HT12.out (i := 0) rfl (lw ++ [f]) (Lib.hid HM3.out.symm)).mono ?_
                rintro e w13 ⟨ra, rc, rfl, hr13, hc13⟩
                have hlnf : (lw ++ [f]).length = ln := by rw [List.length_append, List.length_singleton, HLN.out]
                rw [hlnf] at hr13 ⊢
                clear hlnf
                have HT13 := Lib.hid (HT12.out.same hc13)
                have HW13 := Lib.hid (HW12.out.same hc13)
                have HR13 := Lib.hid hr13
                clear hr13 hc13 HT12 HW12
                go_wp2_with fail
                refine (same_rows HR13.out HW13.out HOQ2.out (by rw [List.length_append, List.length_singleton]; have := HL2.out; have := hn1.2; omega)).mono ?_
                rintro e w14 ⟨rfl, hc14⟩
                have HT14 := Lib.hid (HT13.out.same hc14)
                clear hc14 HT13 HW13 HR13
                go_wp2_with fail
                refine (len_c HT14.out (i := 0) rfl ln (Lib.hid (by rw [HLN.out]; exact HLEN2.out))).mono ?_
                rintro e w15 ⟨rfl, hc15⟩
                have HEND := Lib.hid ((HT14.out.isChg.trans hc15).below (Nat.le_refl w.heap.size) (by simp))
                clear hc15 HT14
                go_wp2
                go_ret
                exact ⟨rfl, HEND.out⟩

end Go.Proofs.Ytgdnfempcjlipaa
