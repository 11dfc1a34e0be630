/- The walk of Keep. -/
import Derived.Test.YtgdnfempcjlipaaCacL
import Derived.Test.YtgdnfempcjlipaaBaseZ
namespace Go.Proofs.Ytgdnfempcjlipaa
open Go.RowKit Go.Maps

/-- A region that ends in one way, whatever its order: walked once, the rest stands behind it once. -/
def OneEnd (A : Act) (W : World) : Exit → Act → World → Prop
  | .normal, a, w => a = A ∧ w = W
  | _, _, _ => False
theorem wp_one {P : Program} {c : Code} {Q : Exit → Act → World → Prop} {a : Act} {w : World} (A : Act) (W : World) (h : c.wp P (OneEnd A W) a w) (k : Q .normal A W) : c.wp P Q a w :=
  Code.wp_mono (fun e a w hq => by
    cases e with
    | normal => obtain ⟨rfl, rfl⟩ := hq; exact k
    | _ => exact hq.elim) h
/-- append whose answer is known, as one step of a region that draws. -/
theorem step_append_known {P : Program} {w : World} {ops : Array Oper} {o : Oper} {a : Act} {K : Act → World → Prop} {Q : Exit → Act → World → Prop} {E : Prop} (hgd : o.guard = none) (s x : Operand) (t : TypeId)
    (ho : o.op = .call { callee := .builtin .append, args := #[s, x], argTypes := #[t, t] }) (vs vx v' : Value) (w' : World) (hs : a.eval s = vs) (hx : a.eval x = vx)
    (hrun : (Builtin.append_ #[t, t] o.type #[vs, vx]).run P w = .ok v' w') (h : K (a.put o.dst v') w') : if Region.wanted o (yielded ops a.tmps) = true then Oper.wp P o a w K Q else E := by
  have hw : Region.wanted o (yielded ops a.tmps) = true := by simp [Region.wanted, hgd]
  rw [if_pos hw]
  unfold Oper.wp
  simp [execOp, ho, resolve, invoke, builtin, hs, hx, hrun, Result.andThen]
  exact h
theorem set7_chg (w : World) (b i1 i2 i3 i4 i5 i6 i7 : Nat) (v1 v2 v3 v4 v5 v6 v7 : Value) : Chg [b] w (((((((w.setCell ⟨b, i1, none⟩ v1).setCell ⟨b, i2, none⟩ v2).setCell ⟨b, i3, none⟩ v3).setCell ⟨b, i4, none⟩ v4).setCell ⟨b, i5, none⟩ v5).setCell ⟨b, i6, none⟩ v6).setCell ⟨b, i7, none⟩ v7) :=
  (((((((Chg.refl _ w).setCell (.inl (by simp)) _).setCell (.inl (by simp)) _).setCell (.inl (by simp)) _).setCell (.inl (by simp)) _).setCell (.inl (by simp)) _).setCell (.inl (by simp)) _).setCell (.inl (by simp)) _
theorem s7_chg {w w' : World} {cb pb vb : Nat} {T : List Nat} {a b c d e f g : Value} (h : w.cell? ⟨cb, 4, none⟩ = some a ∧ w.cell? ⟨pb, 0, none⟩ = some b ∧ w.cell? ⟨pb, 1, none⟩ = some c ∧ w.cell? ⟨pb, 2, none⟩ = some d ∧ w.cell? ⟨vb, 0, none⟩ = some e ∧ w.cell? ⟨vb, 1, none⟩ = some f ∧ w.cell? ⟨vb, 2, none⟩ = some g)
    (hn : cb ∉ T ∧ pb ∉ T ∧ vb ∉ T) (hc : Chg T w w') : w'.cell? ⟨cb, 4, none⟩ = some a ∧ w'.cell? ⟨pb, 0, none⟩ = some b ∧ w'.cell? ⟨pb, 1, none⟩ = some c ∧ w'.cell? ⟨pb, 2, none⟩ = some d ∧ w'.cell? ⟨vb, 0, none⟩ = some e ∧ w'.cell? ⟨vb, 1, none⟩ = some f ∧ w'.cell? ⟨vb, 2, none⟩ = some g :=
  ⟨hc.cell h.1 hn.1, hc.cell h.2.1 hn.2.1, hc.cell h.2.2.1 hn.2.1, hc.cell h.2.2.2.1 hn.2.1, hc.cell h.2.2.2.2.1 hn.2.2, hc.cell h.2.2.2.2.2.1 hn.2.2, hc.cell h.2.2.2.2.2.2 hn.2.2⟩

section
variable (F : List Nat) (cb n k0 k1 : Nat) (c : Cst) (P : Nat) (w : World)
set_option maxRecDepth 100000 in
set_option maxHeartbeats 8000000 in
theorem keep_any (q : Qn) (code : Int) (sa oa : Option Addr) (sn sc on oc : Nat) (v : Ver) (life t : Int) (h : CA F w cb n k0 k1 c P) (hP : P ≤ 900000) (hq1 : q.nm.size ≤ maxLen) (hq2 : q.ty < 65536) (hq3 : q.cl < 65536)
    (hlf : -9223372036854775808 ≤ life ∧ life ≤ 9223372036854775807) (hv : ∀ w', Chg F w w' → RdV w' code (.slice sa sn sc) (.slice oa on oc) v) (r : Int) (hr : Hid (r = if okK q life = true then 0 else 1)) :
    Calls Try.prog 11 #[.pointer (some ⟨cb, 0, none⟩), .agg (qV q), .agg #[.int .u8 code, .slice sa sn sc, .slice oa on oc], .int .i64 life, .int .i64 t] w fun e w' => e = .returned (.int .i64 r) ∧ Aft F w w' fun F' => CA F' w' cb n k0 k1 (keepC n c q v life t) (P + 1) := by
  obtain ⟨nm, ty, cl⟩ := q
  unfold qV
  simp only at hq1 hq2 hq3 ⊢
  obtain ⟨mb0, hmb0⟩ : ∃ b, b = mayB nm.data.toList := ⟨_, rfl⟩
  have HMB := Lib.hid hmb0
  have HH := Lib.hid h
  have HV := Lib.hid hv
  have hn256 := h.n256
  have HOKC := Lib.hid h.ok
  clear h hv hmb0
  go_enter Try.func11, Try.ntmps11
  go_wp2_with fail
  obtain ⟨pb, hpb⟩ : ∃ pb, pb = w.heap.size := ⟨_, rfl⟩
  rw [← hpb]
  refine calls_abs ?_
  intro w0 hw0
  have hc0 : Chg [] w w0 := by rw [hw0]; exact ((Chg.refl _ _).alloc _).alloc _
  have hp0 : w0.heap[pb]? = some (.cells #[.string nm, .int .u16 (ty : Nat), .int .u16 (cl : Nat)] 24 (0, 0)) := by rw [hw0, hpb]; exact heap_old (heap_new _ _)
  have hv0 : w0.heap[pb + 1]? = some (.cells #[.int .u8 code, .slice sa sn sc, .slice oa on oc] 34 (0, 0)) := by rw [hw0, hpb]; exact heap_new' _ _ _ (by simp)
  have hpF : ∀ y ∈ F, y ≠ pb ∧ y ≠ pb + 1 := by intro y hy; have := HH.out.low y hy; omega
  have HP0 := Lib.hid hp0
  have HV0 := Lib.hid hv0
  have HC0 := Lib.hid hc0
  have HPF := Lib.hid hpF
  have HPB := Lib.hid hpb
  clear hpb hw0 hc0 hp0 hv0 hpF
  refine (may_any nm mb0 w0 hq1 HMB).mono ?_
  rintro e9 w1 ⟨rfl, rfl⟩
  by_cases hok : okK ⟨nm, ty, cl⟩ life = true
  · have hr0 : r = 0 := by rw [hr.out, if_pos hok]
    have hok2 := hok
    unfold okK at hok2
    rw [Bool.and_eq_true, decide_eq_true_eq] at hok2
    have hmb1 : mb0 = true := by rw [HMB.out]; exact hok2.1
    subst hmb1
    subst hr0
    have t1 : decide (life < 1) = false := by simp; omega
    have hl1 : 1 ≤ life := hok2.2
    have HOK := Lib.hid hok
    obtain ⟨rr, hrr⟩ : ∃ rr, rr = c.M.length - (advC c t).M.length := ⟨_, rfl⟩
    have HRR := Lib.hid hrr
    clear hok hok2 hrr hr
    go_wp2_with fail
    refine (advance_ca F cb n k0 k1 c P w0 t rr (HH.out.same HC0.out) HRR (by omega)).mono ?_
    rintro e9 w1 ⟨rfl, F1, hA1, hF1, hc1⟩
    have HA1 := Lib.hid hA1
    have HF1 := Lib.hid hF1
    have HC1 := Lib.hid hc1
    obtain ⟨L1, p1, m1, hCF1, hens1, hok1, hp1, hm1⟩ := hA1
    have hp := hc1.keep HP0.out (fun hh => (HPF.out _ hh).1 rfl)
    have hv := hc1.keep HV0.out (fun hh => (HPF.out _ hh).2 rfl)
    have hpF1 : pb ∉ F1 := by
      intro hh
      rcases hF1 _ hh with e | e
      · exact (HPF.out _ e).1 rfl
      · have := lt_of_block HP0.out; omega
    have hvF1 : pb + 1 ∉ F1 := by
      intro hh
      rcases hF1 _ hh with e | e
      · exact (HPF.out _ e).2 rfl
      · have := lt_of_block HV0.out; omega
    have HP1 := Lib.hid hp
    have HV1 := Lib.hid hv
    have HPF1 := Lib.hid hpF1
    have HVF1 := Lib.hid hvF1
    have HENS1 := Lib.hid hens1
    have HOK1 := Lib.hid hok1
    have HCF1 := Lib.hid hCF1
    have hcap : w1.cell? ⟨cb, 0, none⟩ = some (.int .i64 (n : Nat)) := by
      obtain ⟨K1, T1, ⟨eb, mb, lb, tb, cp, tl, FT, f, es, hC, _⟩, _⟩ := hCF1
      exact cell_of hC.head
    clear hF1 hc1 hp hv hpF1 hvF1 hens1 hok1 hCF1 HH
    by_cases hn0 : n = 0
    · subst hn0
      have hfin : Aft F w w1 fun F' => CA F' w1 cb 0 k0 k1 (keepC 0 c ⟨nm, ty, cl⟩ v life t) (P + 1) := by
        refine (show Aft F w0 w1 _ from ⟨F1, ?_, HF1.out, HC1.out⟩).after HC0.out
        have e : keepC 0 c ⟨nm, ty, cl⟩ v life t = advC c t := by
          unfold keepC
          rw [if_pos HOK.out]
          rfl
        rw [e]
        exact HA1.out.mono (by omega)
      have HFIN := Lib.hid hfin
      clear hfin
      go_wp2
      go_ret
      exact ⟨rfl, HFIN.out⟩
    · have t2 : ((n : Int) == 0) = false := by simp; omega
      have p0 : w1.cell? ⟨pb, 0, none⟩ = some (.string nm) := cell_of HP1.out
      have p1' : w1.cell? ⟨pb, 1, none⟩ = some (.int .u16 (ty : Nat)) := cell_of HP1.out
      have p2' : w1.cell? ⟨pb, 2, none⟩ = some (.int .u16 (cl : Nat)) := cell_of HP1.out
      obtain ⟨fn, hfn⟩ : ∃ fn, fn = foldS nm := ⟨_, rfl⟩
      have hfold := folded_any ⟨nm, ty, cl⟩ w1 hq1
      unfold qV foldQ at hfold
      simp only at hfold
      rw [← hfn] at hfold
      have hfs : fn.size ≤ 255 := by rw [hfn]; exact foldS_size nm
      have hfq : foldQ ⟨nm, ty, cl⟩ = ⟨fn, ty, cl⟩ := by unfold foldQ; rw [hfn]
      have HFQ := Lib.hid hfq
      have HFOLD := Lib.hid hfold
      clear hfn hfold hfq
      go_wp2_with fail
      refine HFOLD.out.mono ?_
      rintro e9 w2 ⟨rfl, hc2⟩
      have hp2 := hc2.keep HP1.out (by simp)
      have hv2 := hc2.keep HV1.out (by simp)
      have g0 : w2.cell? ⟨pb, 0, none⟩ = some (.string nm) := cell_of hp2
      have g1 : w2.cell? ⟨pb, 1, none⟩ = some (.int .u16 (ty : Nat)) := cell_of hp2
      have g2 : w2.cell? ⟨pb, 2, none⟩ = some (.int .u16 (cl : Nat)) := cell_of hp2
      have f0 : w2.frozen? ⟨pb, 0, none⟩ = false := free_of hp2
      have f1 : w2.frozen? ⟨pb, 1, none⟩ = false := free_of hp2
      have f2 : w2.frozen? ⟨pb, 2, none⟩ = false := free_of hp2
      have HP2 := Lib.hid hp2
      have HV2 := Lib.hid hv2
      have HC2 := Lib.hid hc2
      clear hp2 hv2 hc2 p0 p1' p2' hcap HP1 HV1
      go_wp2_with fail
      refine calls_abs ?_
      intro w3 hw3
      have hst : Chg [pb] w2 w3 := by rw [hw3]; exact (((Chg.refl _ w2).setCell (.inl (by simp)) _).setCell (.inl (by simp)) _).setCell (.inl (by simp)) _
      have hp3 : w3.heap[pb]? = some (.cells #[.string fn, .int .u16 (ty : Nat), .int .u16 (cl : Nat)] 24 (0, 0)) := by
        rw [hw3, heap_set (heap_set (heap_set HP2.out _) _) _]
        rfl
      have hv3 := hst.keep HV2.out (by simp)
      have hns : NoSet [pb] w2 := noSet_of fun k hk => by simp at hk; rw [hk, ty_cells HP2.out]; exact ⟨by decide, by decide⟩
      have hcf3 : CF F1 w3 cb n k0 k1 (advC c t).now L1 p1 m1 := (HCF1.out.same HC2.out).other hst (by intro y hy; simp at hy; rw [hy]; exact HPF1.out) hns
      have hcw3 : Chg F w w3 := (((HC0.out.mono (by simp)).trans HC1.out).trans (HC2.out.mono (by simp))).trans_new hst (by
        intro y hy
        simp at hy
        right
        rw [hy, HPB.out]
        exact Nat.le_refl _)
      have haf : ∀ y ∈ F1, y ∈ F ∨ w.heap.size ≤ y := by
        intro y hy
        rcases HF1.out y hy with e | e
        · exact .inl e
        · exact .inr (Nat.le_trans HC0.out.size e)
      have HCW3 := Lib.hid hcw3
      have HAF1 := Lib.hid haf
      have HP3 := Lib.hid hp3
      have HV3 := Lib.hid hv3
      obtain ⟨K1, T1, hS3, hcon3, hsy3⟩ := id hcf3
      obtain ⟨so, hso⟩ : ∃ so, so = slotF L1 ⟨fn, ty, cl⟩ := ⟨_, rfl⟩
      have hsl := slot_any F1 cb n k0 k1 _ (rowS L1) L1 K1 T1 p1 m1 w3 ⟨fn, ty, cl⟩ hS3 hcon3 hfs hq2 hq3
      rw [← hso] at hsl
      have hlru := hcf3.lru
      have HCF3 := Lib.hid hcf3
      have HS3 := Lib.hid hS3
      have HCON3 := Lib.hid hcon3
      have HSY3 := Lib.hid hsy3
      have HLRU := Lib.hid hlru
      have HSO := Lib.hid hso
      clear hw3 hp3 hv3 hst hns g0 g1 g2 f0 f1 f2 hcf3 hS3 hcon3 hsy3 hlru hso hcw3 haf HC0 HC1 HC2 HF1
      cases so with
      | some x =>
        simp only [slotV] at hsl
        have hx : x ∈ L1 := List.mem_of_find?_eq_some HSO.out.symm
        have hxq : x.e.q = ⟨fn, ty, cl⟩ := by
          have := List.find?_some HSO.out.symm
          simpa using this
        have hsn : x.s < n := HLRU.out.2.1 x.s (List.mem_map.2 ⟨x, hx, rfl⟩)
        have hpre := pre_some HCON3.out HSY3.out hx hxq (by omega) hsn
        rw [HENS1.out] at hpre
        obtain ⟨s, hs⟩ : ∃ s, s = x.s := ⟨_, rfl⟩
        rw [← hs] at hsl hpre hsn
        have HSL := Lib.hid hsl
        have HPRE := Lib.hid hpre
        clear hsl hpre hx hxq hs
        go_wp2_with fail
        refine HSL.out.mono ?_
        rintro e9 W ⟨rfl, hcW⟩
        have HST := Lib.hid (HS3.out.same hcW)
        have HPW := Lib.hid (hcW.keep HP3.out (by simp))
        have HVW := Lib.hid (hcW.keep HV3.out (by simp))
        have HCW := Lib.hid (HCW3.out.trans (hcW.mono (by simp)))
        have HAF := HAF1
        have HPFW := HPF1
        have HVFW := HVF1
        have hp2 : p1 ≤ P := hp1
        have hm2 : m1 ≤ P + 1 := by omega
        obtain ⟨eb, mb, lb, tb, cp, tl, FT, f, es, hC, hF⟩ := HST.out
        have c3 : W.cell? ⟨cb, 3, none⟩ = some (.int .i64 (advC c t).now) := cell_of hC.head
        have hnow0 := HOK1.out.now0
        have hnow1 := HOK1.out.now1
        unfold topT at hnow1
        obtain ⟨nw, hnw⟩ : ∃ nw, nw = (advC c t).now := ⟨_, rfl⟩
        rw [← hnw] at c3 hnow0 hnow1
        have HNW := Lib.hid hnw
        have HC := Lib.hid hC
        have HFW := Lib.hid hF
        clear hC hF hnw
        go_wp2_with fail
        obtain ⟨u, hu⟩ : ∃ u, u = nw + min life 1099511627776 := ⟨_, rfl⟩
        rw [← hu]
        have huI : Ti.InI u := ⟨by omega, by omega⟩
        have HU := Lib.hid hu
        have HUI := Lib.hid huI
        clear hu huI c3
        have hse : s < es.length := by rw [HC.out.elen]; exact HPRE.out.slt
        have hsn := HPRE.out.slt
        have S4 : Hid (W.cell? ⟨cb, 4, none⟩ = some (.slice (some ⟨eb, 0, none⟩) n cp) ∧ W.cell? ⟨pb, 0, none⟩ = some (.string fn) ∧ W.cell? ⟨pb, 1, none⟩ = some (.int .u16 (ty : Nat)) ∧ W.cell? ⟨pb, 2, none⟩ = some (.int .u16 (cl : Nat)) ∧ W.cell? ⟨pb + 1, 0, none⟩ = some (.int .u8 code) ∧ W.cell? ⟨pb + 1, 1, none⟩ = some (.slice sa sn sc) ∧ W.cell? ⟨pb + 1, 2, none⟩ = some (.slice oa on oc)) :=
          Lib.hid ⟨cell_of HC.out.head, cell_of HPW.out, cell_of HPW.out, cell_of HPW.out, cell_of HVW.out, cell_of HVW.out, cell_of HVW.out⟩
        have hneb : cb ∉ [eb] ∧ pb ∉ [eb] ∧ pb + 1 ∉ [eb] := by
          have he := (HFW.out eb).2 (.inr (.inl rfl))
          refine ⟨?_, ?_, ?_⟩
          · simp
            exact ne_of_type HC.out.head HC.out.ents (by decide)
          · simp; rintro rfl; exact HPFW.out he
          · simp; intro e; rw [← e] at he; exact HVFW.out he
        have HNEB := Lib.hid hneb
        have hrdv := HV.out W HCW.out
        have HRDV := Lib.hid (hrdv.same (Chg.refl [] W).drew)
        clear hneb hrdv
        go_region_held3 (fun W => W.cell? ⟨cb, 4, none⟩ = some (.slice (some ⟨eb, 0, none⟩) n cp) ∧ W.cell? ⟨pb, 0, none⟩ = some (.string fn) ∧ W.cell? ⟨pb, 1, none⟩ = some (.int .u16 (ty : Nat)) ∧ W.cell? ⟨pb, 2, none⟩ = some (.int .u16 (cl : Nat)) ∧ W.cell? ⟨pb + 1, 0, none⟩ = some (.int .u8 code) ∧ W.cell? ⟨pb + 1, 1, none⟩ = some (.slice sa sn sc) ∧ W.cell? ⟨pb + 1, 2, none⟩ = some (.slice oa on oc)) (first | (with_reducible exact S5.out) | (with_reducible exact s7_chg S5.out HNEB.out (set7_chg _ _ _ _ _ _ _ _ _ _ _ _ _ _ _ _)) | exact S4.out) (first | (go_at_call 32; refine (copied_any code sa oa sn sc on oc v W.drew HRDV.out).mono ?_; rintro e9 w5 ⟨sa', sc', oa', oc', rfl, hov, hc5⟩; replace hc5 := hc5.undrew; have S5 := Lib.hid (s7_chg S4.out ⟨by simp, by simp, by simp⟩ hc5); have HOV := Lib.hid (hov.low (Nat.zero_le _)); have hC5 := HC.out.other hc5 (by simp) (noSet_nil W); have HC5 := Lib.hid hC5; have HCH5 := Lib.hid hc5; obtain ⟨en, hen⟩ : ∃ en, en = es[s] := ⟨_, rfl⟩; have g0 : w5.cell? ⟨eb, s * 7, none⟩ = some (.string en.q.nm) := (by rw [cell_of hC5.ents]; exact eRow_get hse (j := 0) (by rw [← hen]; rfl)); have g1 : w5.cell? ⟨eb, s * 7 + 1, none⟩ = some (.int .u16 (en.q.ty : Nat)) := (by rw [cell_of hC5.ents]; exact eRow_get hse (j := 1) (by rw [← hen]; rfl)); have g2 : w5.cell? ⟨eb, s * 7 + 2, none⟩ = some (.int .u16 (en.q.cl : Nat)) := (by rw [cell_of hC5.ents]; exact eRow_get hse (j := 2) (by rw [← hen]; rfl)); have g3 : w5.cell? ⟨eb, s * 7 + 3, none⟩ = some (.int .u8 en.code) := (by rw [cell_of hC5.ents]; exact eRow_get hse (j := 3) (by rw [← hen]; rfl)); have g4 : w5.cell? ⟨eb, s * 7 + 4, none⟩ = some en.sv := (by rw [cell_of hC5.ents]; exact eRow_get hse (j := 4) (by rw [← hen]; rfl)); have g5 : w5.cell? ⟨eb, s * 7 + 5, none⟩ = some en.ov := (by rw [cell_of hC5.ents]; exact eRow_get hse (j := 5) (by rw [← hen]; rfl)); have g6 : w5.cell? ⟨eb, s * 7 + 6, none⟩ = some (.int .i64 en.til) := (by rw [cell_of hC5.ents]; exact eRow_get hse (j := 6) (by rw [← hen]; rfl)); have f0 : w5.frozen? ⟨eb, s * 7, none⟩ = false := free_of hC5.ents; have f1 : w5.frozen? ⟨eb, s * 7 + 1, none⟩ = false := free_of hC5.ents; have f2 : w5.frozen? ⟨eb, s * 7 + 2, none⟩ = false := free_of hC5.ents; have f3 : w5.frozen? ⟨eb, s * 7 + 3, none⟩ = false := free_of hC5.ents; have f4 : w5.frozen? ⟨eb, s * 7 + 4, none⟩ = false := free_of hC5.ents; have f5 : w5.frozen? ⟨eb, s * 7 + 5, none⟩ = false := free_of hC5.ents; have f6 : w5.frozen? ⟨eb, s * 7 + 6, none⟩ = false := free_of hC5.ents; clear hen hC5 hc5 hov))
        refine post_abs ?_
        intro w6 hw6
        have hset : w6 = wset7 w5 eb (s * 7) ⟨⟨fn, ty, cl⟩, code, .slice sa' sn sc', .slice oa' on oc', u⟩ := hw6
        have hC6 := HC5.out.entry (e := ⟨⟨fn, ty, cl⟩, code, .slice sa' sn sc', .slice oa' on oc', u⟩) (L' := cutS L1 s ++ [⟨s, ⟨⟨fn, ty, cl⟩, v, u⟩⟩]) hse ⟨rfl, rfl⟩ (fun y hy => by
          rcases List.mem_append.1 hy with e | e
          · exact .inl ⟨(List.mem_filter.1 e).1, by simpa using (List.mem_filter.1 e).2⟩
          · simp at e
            subst e
            exact .inr ⟨rfl, rfl, rfl, HOV.out⟩)
        have hc6 := wset7_chg w5 eb (s * 7) ⟨⟨fn, ty, cl⟩, code, .slice sa' sn sc', .slice oa' on oc', u⟩
        rw [← hset] at hC6 hc6
        have hch6 : Chg F1 W w6 := (HCH5.out.mono (by simp)).trans (hc6.mono (fun y hy => by simp at hy; rw [hy]; exact (HFW.out eb).2 (.inr (.inl rfl))))
        have c6 : w6.cell? ⟨cb, 6, none⟩ = some (.pointer (some ⟨lb, 0, none⟩)) := cell_of hC6.head
        have HC6 := Lib.hid hC6
        have HCH6 := Lib.hid hch6
        clear hw6 hset hC6 hc6 hch6 g0 g1 g2 g3 g4 g5 g6 f0 f1 f2 f3 f4 f5 f6 S4 S5 HC5 HCH5 HOV
        go_wp2_with fail
        refine (Lr.use_in lb n s _ w6 HC6.out.lru hsn).mono ?_
        rintro e9 w7 ⟨rfl, hl7, hc7⟩
        have hC7 := HC6.out.order hc7 hl7
        have c7 : w7.cell? ⟨cb, 7, none⟩ = some (.pointer (some ⟨tb, 0, none⟩)) := cell_of hC7.head
        have hch7 : Chg F1 W w7 := HCH6.out.trans (hc7.mono (fun y hy => by simp at hy; rw [hy]; exact (HFW.out lb).2 (.inr (.inr (.inr (.inl rfl))))))
        have hsI : Ti.InI ((s : Nat) : Int) := ⟨by omega, by omega⟩
        have HC7 := Lib.hid hC7
        have HCH7 := Lib.hid hch7
        have HSI := Lib.hid hsI
        clear hC7 hch7 hl7 hc7 hsI c6
        go_wp2_with fail
        refine (Ti.put_any tb FT _ _ (s : Nat) u w7 HC7.out.tim HSI.out HUI.out (by omega)).mono ?_
        rintro e9 w8 ⟨rfl, FT8, ht8, hsub8, hc8⟩
        obtain ⟨FT9, ht9, hsub9, hty9⟩ := tim_tight ht8
        have hC8 := HC7.out.timers hc8 ht9 (fun y hy => hsub8 y (hsub9 y hy)) hty9
        have hch8 : Chg F1 W w8 := HCH7.out.trans (hc8.mono (fun y hy => by
          rcases List.mem_cons.1 hy with e | e
          · rw [e]; exact (HFW.out tb).2 (.inr (.inr (.inr (.inr (.inl rfl)))))
          · exact (HFW.out y).2 (.inr (.inr (.inr (.inr (.inr (.inl e))))))))
        have hclose := CS.close (F := F1) (N := FT9.filter fun y => decide (W.heap.size ≤ y)) hC8 (fun y hy => by
          have hh : ∀ z, Part cb eb mb lb tb FT f z → z ∈ F1 := fun z hz => (HFW.out z).2 hz
          rcases hy with e | e | e | e | e | e | e
          · exact .inl (hh y (.inl e))
          · exact .inl (hh y (.inr (.inl e)))
          · exact .inl (hh y (.inr (.inr (.inl e))))
          · exact .inl (hh y (.inr (.inr (.inr (.inl e)))))
          · exact .inl (hh y (.inr (.inr (.inr (.inr (.inl e))))))
          · rcases hsub8 y (hsub9 y e) with e2 | e2
            · exact .inl (hh y (.inr (.inr (.inr (.inr (.inr (.inl e2)))))))
            · refine .inr (List.mem_filter.2 ⟨e, ?_⟩)
              have := HCH7.out.size
              simp
              omega
          · exact .inl (hh y (.inr (.inr (.inr (.inr (.inr (.inr e)))))))) (by intro y hy; have := (List.mem_filter.1 hy).2; simpa using this) hch8 (fun y hy => .inl hy)
        have hM := HOK1.out
        obtain ⟨e1, hcon9, hsy9, hens9⟩ := HPRE.out.con v u (p1 + 1) hn256 hM.nd hM.len ⟨hfs, hq2, hq3⟩
        have hkc : keepC n c ⟨nm, ty, cl⟩ v life t = ⟨nw, keepM n (advC c t).M ⟨⟨fn, ty, cl⟩, v, u⟩⟩ := by
          unfold keepC
          rw [if_pos HOK.out, HFQ.out, HU.out, HNW.out]
          rfl
        have hokm : OkM n (keepC n c ⟨nm, ty, cl⟩ v life t) := HOKC.out.keep hq2 hq3
        have hfin : Aft F w w8 fun F' => CA F' w8 cb n k0 k1 (keepC n c ⟨nm, ty, cl⟩ v life t) (P + 1) := by
          obtain ⟨F', h1, h2, h3⟩ := hclose
          rw [hkc] at hokm ⊢
          refine ⟨F', ⟨_, p1 + 1, m1, ⟨K1, _, (by show CS F' w8 cb n k0 k1 nw _ _ _ _ _ _; rw [HNW.out, ← e1]; exact h1), hcon9, hsy9⟩, hens9, hokm, by omega, by omega⟩, fun y hy => ?_, HCW.out.trans_new h3 HAF.out⟩
          rcases h2 y hy with e | e
          · exact HAF.out y e
          · right
            have := HCW.out.size
            omega
        have HFIN := Lib.hid hfin
        clear hfin hokm hkc hcon9 hsy9 hens9 e1 hM hclose hch8 hC8 hty9 hsub9 ht9 hsub8 ht8 hc8 c7
        go_wp2
        go_ret
        exact ⟨rfl, HFIN.out⟩
      | none =>
        simp only [slotV] at hsl
        have hno : hasM (advC c t).M ⟨fn, ty, cl⟩ = false := by
          rw [← HENS1.out]
          cases hh : hasM (ensS L1) ⟨fn, ty, cl⟩ with
          | false => rfl
          | true =>
            obtain ⟨e, he, heq⟩ := hasM_iff.1 hh
            obtain ⟨x, hx, rfl⟩ := List.mem_map.1 he
            have := List.find?_eq_none.1 HSO.out.symm x hx
            simp [heq] at this
        have HNO := Lib.hid hno
        have HSL := Lib.hid hsl
        clear hsl hno
        go_wp2_with fail
        refine HSL.out.mono ?_
        rintro e9 w4 ⟨rfl, hc4⟩
        have hfree := free_any F1 cb n k0 k1 _ L1 p1 m1 w4 (HCF3.out.same hc4) (by omega) (by omega) (by omega)
        have HFREE := Lib.hid hfree
        have HC4 := Lib.hid hc4
        clear hfree hc4 HSL
        go_wp2_with fail
        refine HFREE.out.mono ?_
        rintro e9 w5 ⟨s, rfl, hsn, hsr, F5, hcf5, hF5, hc5⟩
        have hp5 := hc5.keep (HC4.out.keep HP3.out (by simp)) HPF1.out
        have hv5 := hc5.keep (HC4.out.keep HV3.out (by simp)) HVF1.out
        have hpF5 : pb ∉ F5 := by
          intro hh
          rcases hF5 _ hh with e | e
          · exact HPF1.out e
          · have := lt_of_block (HC4.out.keep HP3.out (by simp)); omega
        have hvF5 : pb + 1 ∉ F5 := by
          intro hh
          rcases hF5 _ hh with e | e
          · exact HVF1.out e
          · have := lt_of_block (HC4.out.keep HV3.out (by simp)); omega
        have hcw5 : Chg F w w5 := (HCW3.out.trans (HC4.out.mono (by simp))).trans_new hc5 HAF1.out
        have haf5 : ∀ y ∈ F5, y ∈ F ∨ w.heap.size ≤ y := by
          intro y hy
          rcases hF5 y hy with e | e
          · exact HAF1.out y e
          · right; have := HCW3.out.size; have := HC4.out.size; omega
        obtain ⟨K5, T5, hS5, hcon5, hsy5⟩ := hcf5
        obtain ⟨e5, b5, l5, t5, cp5, tl5, FT5, f5, es5, hC5, hFF5⟩ := id hS5
        obtain ⟨r5, hr5⟩ : ∃ r5, r5 = hashQ k0 k1 ⟨fn, ty, cl⟩ := ⟨_, rfl⟩
        have hrl : r5 < 18446744073709551616 := by rw [hr5]; exact hashQ_lt _ _ _ hC5.l0 hC5.l1
        have HR5 := Lib.hid hr5
        have hhash := hash_any cb k0 k1 ⟨fn, ty, cl⟩ r5 w5 (cell_of hC5.head) (cell_of hC5.head) hC5.l0 hC5.l1 (Nat.le_trans hfs (by omega)) hq2 hq3 HR5
        unfold qV at hhash
        simp only at hhash
        have x0 : w5.cell? ⟨pb, 0, none⟩ = some (.string fn) := cell_of hp5
        have x1 : w5.cell? ⟨pb, 1, none⟩ = some (.int .u16 (ty : Nat)) := cell_of hp5
        have x2 : w5.cell? ⟨pb, 2, none⟩ = some (.int .u16 (cl : Nat)) := cell_of hp5
        have HHASH := Lib.hid hhash
        have HP5 := Lib.hid hp5
        have HV5 := Lib.hid hv5
        have HPF5 := Lib.hid hpF5
        have HVF5 := Lib.hid hvF5
        have HCW5 := Lib.hid hcw5
        have HAF5 := Lib.hid haf5
        have HCON5 := Lib.hid hcon5
        have HSY5 := Lib.hid hsy5
        have HC5 := Lib.hid hC5
        have HFF5 := Lib.hid hFF5
        have HSR := Lib.hid hsr
        clear hhash hp5 hv5 hpF5 hvF5 hcw5 haf5 hcon5 hsy5 hC5 hFF5 hsr hS5 hr5 hF5 hc5 HFREE
        go_wp2_with fail
        refine HHASH.out.mono ?_
        rintro e9 w6 ⟨rfl, hc6⟩
        have hC6 := HC5.out.other hc6 (by simp) (noSet_nil w5)
        obtain ⟨kl, hkl⟩ : ∃ kl, kl = kh K5 r5 := ⟨_, rfl⟩
        have hkll : kl.length ≤ 256 := by
          rw [hkl]
          unfold kh
          rw [List.length_map]
          exact Nat.le_trans (List.length_filter_le _ _) HCON5.out.klen
        have hrow : R.OwnR 3 1 intV 0 w6 (rowAt f5 r5) kl := by
          rw [hkl]
          unfold rowAt
          cases hf : f5 r5 with
          | none =>
            have := hC6.rows.no r5 hf
            rw [this]
            exact R.OwnR.nil _ _ _ _ _
          | some v => exact (hC6.rows.yes r5 v hf).2
        obtain ⟨ra, rc, hra⟩ := hrow.len
        have hlk1 := (hC6.map.chg (Chg.refl [] w6).drew (by simp)).look hrl
        have hlk2 := (hC6.map.chg ((Chg.refl [] w6).drew.alloc (.cells #[.int .i64 (s : Nat)] 3)) (by simp)).look hrl
        obtain ⟨i0, hi0, hz0, hz1, hz2⟩ := info_parts Try.elemInt
        have hrowA : R.OwnR 3 1 intV 0 (w6.drew.alloc (.cells #[.int .i64 (s : Nat)] 3)) (rowAt f5 r5) kl := hrow.same ((Chg.refl [] w6).drew.alloc _)
        obtain ⟨v7, w7, g7, c7, happ, hown7, hgr7, hv7, hwh7⟩ := Ti.run_push_own (P := Try.prog) (w6.drew.alloc (.cells #[.int .i64 (s : Nat)] 3)) 75 75 3 i0 (.int .i64 0) 8 Try.underlying75 hi0 hz0 hz1 hz2 rfl (rowAt f5 r5) kl.length _ hrowA ⟨w6.heap.size, 0, none⟩ 1 (.int .i64 (s : Nat)) (by
          rw [add_at]
          exact (cell_of (heap_new w6.drew _)).trans rfl) rfl (by unfold maxLen; omega) (by omega)
        subst hv7
        rw [hra] at hlk1 hlk2 happ
        obtain ⟨own, hown⟩ : ∃ own : List Nat, own = (rowAt f5 r5).ownBlock.toList := ⟨_, rfl⟩
        have hom : ∀ k, (rowAt f5 r5).ownBlock = some k → k ∈ own := fun k hk => by rw [hown, hk]; simp
        have homr : ∀ k ∈ own, RowBlk f5 k := by
          intro k hk
          rw [hown] at hk
          simp at hk
          unfold rowAt at hk
          cases hf : f5 r5 with
          | none => rw [hf] at hk; cases hk
          | some u => rw [hf] at hk; exact ⟨r5, u, hf, hk⟩
        have hb5 : b5 ∉ own := by
          intro hh
          have h1 := (hC6.rows.ty (homr _ hh)).1
          rw [hC6.tmb] at h1
          cases h1
        have hca : Chg [] w6 (w6.drew.alloc (.cells #[.int .i64 (s : Nat)] 3)) := (Chg.refl [] w6).drew.alloc _
        have hc67 : Chg own w6 w7 := (hca.mono (by simp)).grown hgr7 (fun k hk => .inl (hom k hk))
        have hm7 : MapH w7 b5 m1 f5 := hC6.map.chg hc67 hb5
        obtain ⟨W, hup, hm8, hc8⟩ := hm7.put hrl (.slice (some ⟨g7, 0, none⟩) (kl.length + 1) c7) (by omega)
        have hc68 : Chg (b5 :: own) w6 W := (hc67.mono (by intro y hy; simp [hy])).trans (hc8.mono (by simp))
        have hr8 := rows_push (s := s) (hC6.rows.chg hca (by simp)) rfl (by rw [← hkl]; exact hrowA) hgr7.size (fun k hk hne => hgr7.block k hk (fun e => hne e.symm)) (by rw [← hkl]; exact hown7) hwh7 hc8 (by obtain ⟨es', c', hb'⟩ := hm7.isMap; exact ty_map hb')
        rw [← hkl] at hr8
        have hC8 := hC6.maps hc68 (fun y hy => by
          rcases List.mem_cons.1 hy with e | e
          · exact .inl e
          · exact .inr (homr y e)) hm8 hr8
        have hsz6 : w6.heap.size ≤ (w6.drew.alloc (.cells #[.int .i64 (s : Nat)] 3)).heap.size := hca.size
        have hclose := CS.close (F := F5) (N := [g7].filter fun y => decide (w6.heap.size ≤ y)) hC8 (fun y hy => by
          have hh : ∀ z, Part cb e5 b5 l5 t5 FT5 f5 z → z ∈ F5 := fun z hz => (HFF5.out z).2 hz
          rcases hy with e | e | e | e | e | e | e
          · exact .inl (hh y (.inl e))
          · exact .inl (hh y (.inr (.inl e)))
          · exact .inl (hh y (.inr (.inr (.inl e))))
          · exact .inl (hh y (.inr (.inr (.inr (.inl e)))))
          · exact .inl (hh y (.inr (.inr (.inr (.inr (.inl e))))))
          · exact .inl (hh y (.inr (.inr (.inr (.inr (.inr (.inl e)))))))
          · obtain ⟨h', v', h1, h2⟩ := e
            dsimp only at h1
            by_cases e : h' = r5
            · rw [if_pos e] at h1
              cases h1
              cases h2
              rcases hwh7 with e2 | e2
              · exact .inl (hh _ (.inr (.inr (.inr (.inr (.inr (.inr (homr _ (hom _ e2)))))))))
              · exact .inr (List.mem_filter.2 ⟨by simp, by simp; omega⟩)
            · rw [if_neg e] at h1
              exact .inl (hh y (.inr (.inr (.inr (.inr (.inr (.inr ⟨h', v', h1, h2⟩)))))))) (by intro y hy; have := (List.mem_filter.1 hy).2; simpa using this) hc68 (fun y hy => by
            left
            rcases List.mem_cons.1 hy with e | e
            · rw [e]; exact (HFF5.out b5).2 (.inr (.inr (.inl rfl)))
            · exact (HFF5.out y).2 (.inr (.inr (.inr (.inr (.inr (.inr (homr y e))))))))
        obtain ⟨F8, hS8, hF8, hch8⟩ := hclose
        have hpre := pre_none (M := (advC c t).M) (q := ⟨fn, ty, cl⟩) HCON5.out HSY5.out (by omega) hsn HSR.out (sync_ids HSY5.out HSR.out) HNO.out (by rw [fullL_ens, HENS1.out])
        rw [← HR5.out] at hpre
        have HPRE := Lib.hid hpre
        have HST := Lib.hid hS8
        have HPW := Lib.hid (hch8.keep (hc6.keep HP5.out (by simp)) HPF5.out)
        have HVW := Lib.hid (hch8.keep (hc6.keep HV5.out (by simp)) HVF5.out)
        have HPFW : Hid (pb ∉ F8) := Lib.hid (by
          intro hh
          rcases hF8 _ hh with e | e
          · exact HPF5.out e
          · have := lt_of_block (hc6.keep HP5.out (by simp)); omega)
        have HVFW : Hid (pb + 1 ∉ F8) := Lib.hid (by
          intro hh
          rcases hF8 _ hh with e | e
          · exact HVF5.out e
          · have := lt_of_block (hc6.keep HV5.out (by simp)); omega)
        have HCW := Lib.hid ((HCW5.out.trans (hc6.mono (by simp))).trans_new hch8 HAF5.out)
        have HAF : Hid (∀ y ∈ F8, y ∈ F ∨ w.heap.size ≤ y) := Lib.hid (by
          intro y hy
          rcases hF8 y hy with e | e
          · exact HAF5.out y e
          · right; have := HCW5.out.size; have := hc6.size; omega)
        have hp2 : p1 ≤ P := hp1
        have y5 : w6.cell? ⟨cb, 5, none⟩ = some (.map (some b5)) := cell_of hC6.head
        obtain ⟨m8, hm8e⟩ : ∃ m8, m8 = if (f5 r5).isSome then m1 else m1 + 1 := ⟨_, rfl⟩
        have hm2 : m8 ≤ P + 1 := by rw [hm8e]; split <;> omega
        rw [← hm8e] at HST
        obtain ⟨kn, hkn⟩ : ∃ kn, kn = kl.length := ⟨_, rfl⟩
        rw [← hkn] at hlk1 hlk2 happ hup
        have HAPP := Lib.hid happ
        have hcb7 : cb ∉ own := by
          intro hh
          have h1 := (hC6.rows.ty (homr _ hh)).1
          rw [hC6.tcb] at h1
          exact absurd h1 (by decide)
        have hlk7 := hm7.look hrl
        rw [hra] at hlk7
        have hSd : w6.drew.cell? ⟨cb, 5, none⟩ = some (.map (some b5)) ∧ (Instr.lookup 66 (.map (some b5)) (.int .u64 (r5 : Int)) false).run Try.prog w6.drew = .ok (.slice ra kn rc) w6.drew := ⟨y5, hlk1⟩
        have hSa : (w6.drew.alloc (.cells #[.int .i64 (s : Nat)] 3)).cell? ⟨cb, 5, none⟩ = some (.map (some b5)) ∧ (Instr.lookup 66 (.map (some b5)) (.int .u64 (r5 : Int)) false).run Try.prog (w6.drew.alloc (.cells #[.int .i64 (s : Nat)] 3)) = .ok (.slice ra kn rc) (w6.drew.alloc (.cells #[.int .i64 (s : Nat)] 3)) := ⟨hca.cell y5 (by simp), hlk2⟩
        have hS7 : w7.cell? ⟨cb, 5, none⟩ = some (.map (some b5)) ∧ (Instr.lookup 66 (.map (some b5)) (.int .u64 (r5 : Int)) false).run Try.prog w7 = .ok (.slice ra kn rc) w7 := ⟨hc67.cell y5 hcb7, by rw [hkn]; exact hlk7⟩
        clear hlk7 hlk1 hlk2 hcb7 y5 happ hkn hm8e hch8 hF8 hS8 hpre hsz6 hC8 hr8 hc68 hc8 hm8 hm7 hc67 hca hb5 homr hom hown hown7 hgr7 hwh7 hrowA hi0 hz0 hz1 hz2 hrow hra hkll hkl hC6 hc6 x0 x1 x2
        go_wp2_with fail
        refine wp_region_L (S := fun W => W.cell? ⟨cb, 5, none⟩ = some (.map (some b5)) ∧ (Instr.lookup 66 (.map (some b5)) (.int .u64 (r5 : Int)) false).run Try.prog W = .ok (.slice ra kn rc) W) (x := 14) (by kernel_rfl) ?_
        refine wpL_take (i := 0) (v := ?_) rfl (by kernel_rfl) (by kernel_rfl) (by kernel_rfl) (by kernel_rfl) (fun _ _ _ h => h) (Or.inl ⟨by rfl, ?_⟩) hSd ?_
        rotate_left
        · intro w hSw
          obtain ⟨s1, s2⟩ := hSw
          go_simp <;> (with_reducible rfl)
        try simp only [Act.put, List.setIfInBounds_toArray, List.set_cons_zero, List.set_cons_succ]
        refine wpL_take (i := 1) (v := ?_) rfl (by kernel_rfl) (by kernel_rfl) (by kernel_rfl) (by kernel_rfl) (fun _ _ _ h => h) (Or.inl ⟨by rfl, ?_⟩) hSd ?_
        rotate_left
        · intro w hSw
          obtain ⟨s1, s2⟩ := hSw
          go_simp <;> (with_reducible rfl)
        try simp only [Act.put, List.setIfInBounds_toArray, List.set_cons_zero, List.set_cons_succ]
        refine wpL_take (i := 2) (v := ?_) rfl (by kernel_rfl) (by kernel_rfl) (by kernel_rfl) (by kernel_rfl) (fun _ _ _ h => h) (Or.inl ⟨by rfl, ?_⟩) hSd ?_
        rotate_left
        · intro w hSw
          obtain ⟨s1, s2⟩ := hSw
          go_simp <;> (with_reducible rfl)
        try simp only [Act.put, List.setIfInBounds_toArray, List.set_cons_zero, List.set_cons_succ]
        refine wpL_take (i := 3) (v := ?_) rfl (by kernel_rfl) (by kernel_rfl) (by kernel_rfl) (by kernel_rfl) (fun _ _ _ h => h) (Or.inl ⟨by rfl, ?_⟩) hSd ?_
        rotate_left
        · intro w hSw
          obtain ⟨s1, s2⟩ := hSw
          go_simp <;> (with_reducible rfl)
        try simp only [Act.put, List.setIfInBounds_toArray, List.set_cons_zero, List.set_cons_succ]
        refine wpL_take (i := 4) (v := ?_) rfl (by kernel_rfl) (by kernel_rfl) (by kernel_rfl) (by kernel_rfl) (fun _ _ _ h => h) (Or.inl ⟨by rfl, ?_⟩) hSd ?_
        rotate_left
        · intro w hSw
          obtain ⟨s1, s2⟩ := hSw
          go_simp <;> (with_reducible rfl)
        try simp only [Act.put, List.setIfInBounds_toArray, List.set_cons_zero, List.set_cons_succ]
        refine wpL_take (i := 5) (v := ?_) rfl (by kernel_rfl) (by kernel_rfl) (by kernel_rfl) (by kernel_rfl) (fun _ _ _ h => h) (Or.inl ⟨by rfl, ?_⟩) hSd ?_
        rotate_left
        · intro w hSw
          obtain ⟨s1, s2⟩ := hSw
          go_simp <;> (with_reducible rfl)
        try simp only [Act.put, List.setIfInBounds_toArray, List.set_cons_zero, List.set_cons_succ]
        refine wpL_take (i := 6) (v := ?_) rfl (by kernel_rfl) (by kernel_rfl) (by kernel_rfl) (by kernel_rfl) (fun _ _ _ h => h) (Or.inl ⟨by rfl, ?_⟩) hSd ?_
        rotate_left
        · intro w hSw
          obtain ⟨s1, s2⟩ := hSw
          go_simp <;> (with_reducible rfl)
        try simp only [Act.put, List.setIfInBounds_toArray, List.set_cons_zero, List.set_cons_succ]
        refine wpL_take (i := 7) (v := ?_) rfl (by kernel_rfl) (by kernel_rfl) (by kernel_rfl) (by kernel_rfl) (fun _ _ _ h => h) (Or.inl ⟨by rfl, ?_⟩) hSd ?_
        rotate_left
        · intro w hSw
          obtain ⟨s1, s2⟩ := hSw
          go_simp <;> (with_reducible rfl)
        try simp only [Act.put, List.setIfInBounds_toArray, List.set_cons_zero, List.set_cons_succ]
        refine wpL_take (i := 8) (v := ?_) rfl (by kernel_rfl) (by kernel_rfl) (by kernel_rfl) (by kernel_rfl) (fun _ _ _ h => h) (Or.inl ⟨by rfl, ?_⟩) hSd ?_
        rotate_left
        · intro w hSw
          obtain ⟨s1, s2⟩ := hSw
          go_simp <;> (with_reducible rfl)
        try simp only [Act.put, List.setIfInBounds_toArray, List.set_cons_zero, List.set_cons_succ]
        refine wpL_take (i := 9) (v := ?_) rfl (by kernel_rfl) (by kernel_rfl) (by kernel_rfl) (by kernel_rfl) (fun _ _ _ h => h) (Or.inl ⟨by rfl, ?_⟩) hSd ?_
        rotate_left
        · intro w hSw
          obtain ⟨s1, s2⟩ := hSw
          go_simp <;> (with_reducible rfl)
        try simp only [Act.put, List.setIfInBounds_toArray, List.set_cons_zero, List.set_cons_succ]
        refine wpL_take (i := 10) (v := ?_) rfl (by kernel_rfl) (by kernel_rfl) (by kernel_rfl) (by kernel_rfl) (fun _ _ _ h => h) (Or.inl ⟨by rfl, ?_⟩) hSd ?_
        rotate_left
        · intro w hSw
          obtain ⟨s1, s2⟩ := hSw
          go_simp <;> (with_reducible rfl)
        try simp only [Act.put, List.setIfInBounds_toArray, List.set_cons_zero, List.set_cons_succ]
        refine wpL_take (i := 11) (v := ?_) rfl (by kernel_rfl) (by kernel_rfl) (by kernel_rfl) (by kernel_rfl) (fun _ _ _ h => h) (Or.inl ⟨by rfl, ?_⟩) hSd ?_
        rotate_left
        · intro w hSw
          obtain ⟨s1, s2⟩ := hSw
          go_simp <;> (with_reducible rfl)
        try simp only [Act.put, List.setIfInBounds_toArray, List.set_cons_zero, List.set_cons_succ]
        refine wpL_one (i := 12) (by kernel_rfl) rfl (fun K hK => ?_)
        go_simp
        refine hK.out _ _ (fun _ => hSa) ?_
        try simp only [Act.put, List.setIfInBounds_toArray, List.set_cons_zero, List.set_cons_succ]
        refine wpL_one (i := 13) (by kernel_rfl) rfl (fun K hK => ?_)
        refine step_append_known rfl _ _ 75 rfl _ _ _ _ rfl rfl HAPP.out ?_
        refine hK.out _ _ (fun _ => hS7) ?_
        try simp only [Act.put, List.setIfInBounds_toArray, List.set_cons_zero, List.set_cons_succ]
        refine wpL_one (i := 14) (by kernel_rfl) rfl (fun K hK => ?_)
        go_simp
        refine hK.out _ _ (fun h => absurd rfl h) ?_
        refine wpL_done (by kernel_rfl) ?_ _
        try simp only [Act.put, List.setIfInBounds_toArray, List.set_cons_zero, List.set_cons_succ]
        obtain ⟨eb, mb, lb, tb, cp, tl, FT, f, es, hC, hF⟩ := HST.out
        clear hSd hSa hS7 hup
        have c3 : W.cell? ⟨cb, 3, none⟩ = some (.int .i64 (advC c t).now) := cell_of hC.head
        have hnow0 := HOK1.out.now0
        have hnow1 := HOK1.out.now1
        unfold topT at hnow1
        obtain ⟨nw, hnw⟩ : ∃ nw, nw = (advC c t).now := ⟨_, rfl⟩
        rw [← hnw] at c3 hnow0 hnow1
        have HNW := Lib.hid hnw
        have HC := Lib.hid hC
        have HFW := Lib.hid hF
        clear hC hF hnw
        go_wp2_with fail
        obtain ⟨u, hu⟩ : ∃ u, u = nw + min life 1099511627776 := ⟨_, rfl⟩
        rw [← hu]
        have huI : Ti.InI u := ⟨by omega, by omega⟩
        have HU := Lib.hid hu
        have HUI := Lib.hid huI
        clear hu huI c3
        have hse : s < es.length := by rw [HC.out.elen]; exact HPRE.out.slt
        have hsn := HPRE.out.slt
        have S4 : Hid (W.cell? ⟨cb, 4, none⟩ = some (.slice (some ⟨eb, 0, none⟩) n cp) ∧ W.cell? ⟨pb, 0, none⟩ = some (.string fn) ∧ W.cell? ⟨pb, 1, none⟩ = some (.int .u16 (ty : Nat)) ∧ W.cell? ⟨pb, 2, none⟩ = some (.int .u16 (cl : Nat)) ∧ W.cell? ⟨pb + 1, 0, none⟩ = some (.int .u8 code) ∧ W.cell? ⟨pb + 1, 1, none⟩ = some (.slice sa sn sc) ∧ W.cell? ⟨pb + 1, 2, none⟩ = some (.slice oa on oc)) :=
          Lib.hid ⟨cell_of HC.out.head, cell_of HPW.out, cell_of HPW.out, cell_of HPW.out, cell_of HVW.out, cell_of HVW.out, cell_of HVW.out⟩
        have hneb : cb ∉ [eb] ∧ pb ∉ [eb] ∧ pb + 1 ∉ [eb] := by
          have he := (HFW.out eb).2 (.inr (.inl rfl))
          refine ⟨?_, ?_, ?_⟩
          · simp
            exact ne_of_type HC.out.head HC.out.ents (by decide)
          · simp; rintro rfl; exact HPFW.out he
          · simp; intro e; rw [← e] at he; exact HVFW.out he
        have HNEB := Lib.hid hneb
        have hrdv := HV.out W HCW.out
        have HRDV := Lib.hid (hrdv.same (Chg.refl [] W).drew)
        clear hneb hrdv
        go_region_held3 (fun W => W.cell? ⟨cb, 4, none⟩ = some (.slice (some ⟨eb, 0, none⟩) n cp) ∧ W.cell? ⟨pb, 0, none⟩ = some (.string fn) ∧ W.cell? ⟨pb, 1, none⟩ = some (.int .u16 (ty : Nat)) ∧ W.cell? ⟨pb, 2, none⟩ = some (.int .u16 (cl : Nat)) ∧ W.cell? ⟨pb + 1, 0, none⟩ = some (.int .u8 code) ∧ W.cell? ⟨pb + 1, 1, none⟩ = some (.slice sa sn sc) ∧ W.cell? ⟨pb + 1, 2, none⟩ = some (.slice oa on oc)) (first | (with_reducible exact S5.out) | (with_reducible exact s7_chg S5.out HNEB.out (set7_chg _ _ _ _ _ _ _ _ _ _ _ _ _ _ _ _)) | exact S4.out) (first | (go_at_call 32; refine (copied_any code sa oa sn sc on oc v W.drew HRDV.out).mono ?_; rintro e9 w5 ⟨sa', sc', oa', oc', rfl, hov, hc5⟩; replace hc5 := hc5.undrew; have S5 := Lib.hid (s7_chg S4.out ⟨by simp, by simp, by simp⟩ hc5); have HOV := Lib.hid (hov.low (Nat.zero_le _)); have hC5 := HC.out.other hc5 (by simp) (noSet_nil W); have HC5 := Lib.hid hC5; have HCH5 := Lib.hid hc5; obtain ⟨en, hen⟩ : ∃ en, en = es[s] := ⟨_, rfl⟩; have g0 : w5.cell? ⟨eb, s * 7, none⟩ = some (.string en.q.nm) := (by rw [cell_of hC5.ents]; exact eRow_get hse (j := 0) (by rw [← hen]; rfl)); have g1 : w5.cell? ⟨eb, s * 7 + 1, none⟩ = some (.int .u16 (en.q.ty : Nat)) := (by rw [cell_of hC5.ents]; exact eRow_get hse (j := 1) (by rw [← hen]; rfl)); have g2 : w5.cell? ⟨eb, s * 7 + 2, none⟩ = some (.int .u16 (en.q.cl : Nat)) := (by rw [cell_of hC5.ents]; exact eRow_get hse (j := 2) (by rw [← hen]; rfl)); have g3 : w5.cell? ⟨eb, s * 7 + 3, none⟩ = some (.int .u8 en.code) := (by rw [cell_of hC5.ents]; exact eRow_get hse (j := 3) (by rw [← hen]; rfl)); have g4 : w5.cell? ⟨eb, s * 7 + 4, none⟩ = some en.sv := (by rw [cell_of hC5.ents]; exact eRow_get hse (j := 4) (by rw [← hen]; rfl)); have g5 : w5.cell? ⟨eb, s * 7 + 5, none⟩ = some en.ov := (by rw [cell_of hC5.ents]; exact eRow_get hse (j := 5) (by rw [← hen]; rfl)); have g6 : w5.cell? ⟨eb, s * 7 + 6, none⟩ = some (.int .i64 en.til) := (by rw [cell_of hC5.ents]; exact eRow_get hse (j := 6) (by rw [← hen]; rfl)); have f0 : w5.frozen? ⟨eb, s * 7, none⟩ = false := free_of hC5.ents; have f1 : w5.frozen? ⟨eb, s * 7 + 1, none⟩ = false := free_of hC5.ents; have f2 : w5.frozen? ⟨eb, s * 7 + 2, none⟩ = false := free_of hC5.ents; have f3 : w5.frozen? ⟨eb, s * 7 + 3, none⟩ = false := free_of hC5.ents; have f4 : w5.frozen? ⟨eb, s * 7 + 4, none⟩ = false := free_of hC5.ents; have f5 : w5.frozen? ⟨eb, s * 7 + 5, none⟩ = false := free_of hC5.ents; have f6 : w5.frozen? ⟨eb, s * 7 + 6, none⟩ = false := free_of hC5.ents; clear hen hC5 hc5 hov))
        refine post_abs ?_
        intro w6 hw6
        have hset : w6 = wset7 w5 eb (s * 7) ⟨⟨fn, ty, cl⟩, code, .slice sa' sn sc', .slice oa' on oc', u⟩ := hw6
        have hC6 := HC5.out.entry (e := ⟨⟨fn, ty, cl⟩, code, .slice sa' sn sc', .slice oa' on oc', u⟩) (L' := cutS (fullL n L1) s ++ [⟨s, ⟨⟨fn, ty, cl⟩, v, u⟩⟩]) hse ⟨rfl, rfl⟩ (fun y hy => by
          rcases List.mem_append.1 hy with e | e
          · exact .inl ⟨(List.mem_filter.1 e).1, by simpa using (List.mem_filter.1 e).2⟩
          · simp at e
            subst e
            exact .inr ⟨rfl, rfl, rfl, HOV.out⟩)
        have hc6 := wset7_chg w5 eb (s * 7) ⟨⟨fn, ty, cl⟩, code, .slice sa' sn sc', .slice oa' on oc', u⟩
        rw [← hset] at hC6 hc6
        have hch6 : Chg F8 W w6 := (HCH5.out.mono (by simp)).trans (hc6.mono (fun y hy => by simp at hy; rw [hy]; exact (HFW.out eb).2 (.inr (.inl rfl))))
        have c6 : w6.cell? ⟨cb, 6, none⟩ = some (.pointer (some ⟨lb, 0, none⟩)) := cell_of hC6.head
        have HC6 := Lib.hid hC6
        have HCH6 := Lib.hid hch6
        clear hw6 hset hC6 hc6 hch6 g0 g1 g2 g3 g4 g5 g6 f0 f1 f2 f3 f4 f5 f6 S4 S5 HC5 HCH5 HOV
        go_wp2_with fail
        refine (Lr.use_in lb n s _ w6 HC6.out.lru hsn).mono ?_
        rintro e9 w7 ⟨rfl, hl7, hc7⟩
        have hC7 := HC6.out.order hc7 hl7
        have c7 : w7.cell? ⟨cb, 7, none⟩ = some (.pointer (some ⟨tb, 0, none⟩)) := cell_of hC7.head
        have hch7 : Chg F8 W w7 := HCH6.out.trans (hc7.mono (fun y hy => by simp at hy; rw [hy]; exact (HFW.out lb).2 (.inr (.inr (.inr (.inl rfl))))))
        have hsI : Ti.InI ((s : Nat) : Int) := ⟨by omega, by omega⟩
        have HC7 := Lib.hid hC7
        have HCH7 := Lib.hid hch7
        have HSI := Lib.hid hsI
        clear hC7 hch7 hl7 hc7 hsI c6
        go_wp2_with fail
        refine (Ti.put_any tb FT _ _ (s : Nat) u w7 HC7.out.tim HSI.out HUI.out (by omega)).mono ?_
        rintro e9 w8 ⟨rfl, FT8, ht8, hsub8, hc8⟩
        obtain ⟨FT9, ht9, hsub9, hty9⟩ := tim_tight ht8
        have hC8 := HC7.out.timers hc8 ht9 (fun y hy => hsub8 y (hsub9 y hy)) hty9
        have hch8 : Chg F8 W w8 := HCH7.out.trans (hc8.mono (fun y hy => by
          rcases List.mem_cons.1 hy with e | e
          · rw [e]; exact (HFW.out tb).2 (.inr (.inr (.inr (.inr (.inl rfl)))))
          · exact (HFW.out y).2 (.inr (.inr (.inr (.inr (.inr (.inl e))))))))
        have hclose := CS.close (F := F8) (N := FT9.filter fun y => decide (W.heap.size ≤ y)) hC8 (fun y hy => by
          have hh : ∀ z, Part cb eb mb lb tb FT f z → z ∈ F8 := fun z hz => (HFW.out z).2 hz
          rcases hy with e | e | e | e | e | e | e
          · exact .inl (hh y (.inl e))
          · exact .inl (hh y (.inr (.inl e)))
          · exact .inl (hh y (.inr (.inr (.inl e))))
          · exact .inl (hh y (.inr (.inr (.inr (.inl e)))))
          · exact .inl (hh y (.inr (.inr (.inr (.inr (.inl e))))))
          · rcases hsub8 y (hsub9 y e) with e2 | e2
            · exact .inl (hh y (.inr (.inr (.inr (.inr (.inr (.inl e2)))))))
            · refine .inr (List.mem_filter.2 ⟨e, ?_⟩)
              have := HCH7.out.size
              simp
              omega
          · exact .inl (hh y (.inr (.inr (.inr (.inr (.inr (.inr e)))))))) (by intro y hy; have := (List.mem_filter.1 hy).2; simpa using this) hch8 (fun y hy => .inl hy)
        have hM := HOK1.out
        obtain ⟨e1, hcon9, hsy9, hens9⟩ := HPRE.out.con v u (p1 + 1) hn256 hM.nd hM.len ⟨hfs, hq2, hq3⟩
        have hkc : keepC n c ⟨nm, ty, cl⟩ v life t = ⟨nw, keepM n (advC c t).M ⟨⟨fn, ty, cl⟩, v, u⟩⟩ := by
          unfold keepC
          rw [if_pos HOK.out, HFQ.out, HU.out, HNW.out]
          rfl
        have hokm : OkM n (keepC n c ⟨nm, ty, cl⟩ v life t) := HOKC.out.keep hq2 hq3
        have hfin : Aft F w w8 fun F' => CA F' w8 cb n k0 k1 (keepC n c ⟨nm, ty, cl⟩ v life t) (P + 1) := by
          obtain ⟨F', h1, h2, h3⟩ := hclose
          rw [hkc] at hokm ⊢
          refine ⟨F', ⟨_, p1 + 1, m8, ⟨(K5 ++ [(s, r5)]), _, (by show CS F' w8 cb n k0 k1 nw _ _ _ _ _ _; rw [HNW.out, ← e1]; exact h1), hcon9, hsy9⟩, hens9, hokm, by omega, by omega⟩, fun y hy => ?_, HCW.out.trans_new h3 HAF.out⟩
          rcases h2 y hy with e | e
          · exact HAF.out y e
          · right
            have := HCW.out.size
            omega
        have HFIN := Lib.hid hfin
        clear hfin hokm hkc hcon9 hsy9 hens9 e1 hM hclose hch8 hC8 hty9 hsub9 ht9 hsub8 ht8 hc8 c7
        go_wp2
        go_ret
        exact ⟨rfl, HFIN.out⟩
  · have hr1 : r = 1 := by rw [hr.out, if_neg hok]
    subst hr1
    have hkc : keepC n c ⟨nm, ty, cl⟩ v life t = c := by unfold keepC; rw [if_neg hok]
    have hfin : Aft F w w0 fun F' => CA F' w0 cb n k0 k1 (keepC n c ⟨nm, ty, cl⟩ v life t) (P + 1) := by
      rw [hkc]
      exact aft_chg ((HH.out.same HC0.out).mono (by omega)) HC0.out
    have HFIN := Lib.hid hfin
    have hokf : okK ⟨nm, ty, cl⟩ life = false := by simpa using hok
    unfold okK at hokf
    have hmm : mayQ ⟨nm, ty, cl⟩ = mb0 := HMB.out.symm
    rw [hmm] at hokf
    clear hok hkc hfin hr hmm
    cases mb0 with
    | false =>
      go_wp2
      go_ret
      exact ⟨rfl, HFIN.out⟩
    | true =>
      have t1 : decide (life < 1) = true := by simp at hokf; simp; omega
      clear hokf
      go_wp2
      go_ret
      exact ⟨rfl, HFIN.out⟩
end

end Go.Proofs.Ytgdnfempcjlipaa
