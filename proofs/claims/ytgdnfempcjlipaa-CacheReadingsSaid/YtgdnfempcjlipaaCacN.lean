/- The walk of Find. -/
import Derived.Test.YtgdnfempcjlipaaCacM
namespace Go.Proofs.Ytgdnfempcjlipaa
open Go.RowKit Go.Maps

def gotV (o : Option En) : Ver := match o with | some x => x.v | none => ⟨0, [], []⟩
def leftV (o : Option En) (now : Int) : Int := match o with | some x => x.til - now | none => 0
theorem slice_of {v : Value} (h : sliceB v = true) : ∃ a n c, v = .slice a n c := by
  cases v <;> simp [sliceB] at h
  exact ⟨_, _, _, rfl⟩
theorem getM_of {L : List Sl} {q : Qn} : getM (ensS L) q = (slotF L q).map (·.e) := by
  unfold getM slotF ensS
  rw [List.find?_map]
  rfl
theorem own_none (base : Nat) (w : World) : OwnV base w 0 (.slice none 0 0) (.slice none 0 0) ⟨0, [], []⟩ := ⟨rfl, by decide, OwnSets.nil _ _, OwnSets.nil _ _⟩
/-- A slot's entry moves to the row's end. -/
theorem con_use {k0 k1 : Nat} {L : List Sl} {K : List (Nat × Nat)} {T : List Ti.It} {x : Sl} (hcon : Con k0 k1 (rowS L) L K) (hs : Sync L T) (hx : x ∈ L) :
    Lr.useL (rowS L) x.s = rowS (cutS L x.s ++ [x]) ∧ Con k0 k1 (rowS (cutS L x.s ++ [x])) (cutS L x.s ++ [x]) K ∧ Sync (cutS L x.s ++ [x]) T ∧ (cutS L x.s ++ [x]).Perm L := by
  have hperm : (cutS L x.s ++ [x]).Perm L := by
    obtain ⟨l, m, rfl⟩ := List.append_of_mem hx
    have hnd := hcon.nd
    unfold rowS at hnd
    rw [List.map_append, List.map_cons, List.nodup_append, List.nodup_cons] at hnd
    have hc : cutS (l ++ x :: m) x.s = l ++ m := by
      unfold cutS
      rw [List.filter_append, List.filter_cons, if_neg (by simp)]
      congr 1
      · apply List.filter_eq_self.2
        intro y hy
        simp
        intro e
        exact hnd.2.2 y.s (List.mem_map.2 ⟨y, hy, rfl⟩) x.s (by simp) e
      · apply List.filter_eq_self.2
        intro y hy
        simp
        intro e
        exact hnd.2.1.1 (List.mem_map.2 ⟨y, hy, e⟩)
    rw [hc]
    exact (List.perm_append_comm (l₁ := l ++ m) (l₂ := [x])).trans (List.perm_middle (l₁ := l) (a := x) (l₂ := m)).symm
  have hrow : Lr.useL (rowS L) x.s = rowS (cutS L x.s ++ [x]) := by
    have e1 : Lr.useL (rowS L) x.s = (rowS L).filter (· ≠ x.s) ++ [x.s] := rfl
    rw [e1, ← cutS_row]
    simp [rowS]
  refine ⟨hrow, ⟨rfl, hcon.perm.trans (hperm.map _).symm, ((hperm.map _).nodup_iff).2 hcon.nd, ?_, fun y hy => hcon.ok y (hperm.mem_iff.1 hy), by rw [hperm.length_eq]; exact hcon.len⟩, hs.trans (hperm.map _).symm, hperm⟩
  unfold ensS
  exact (((hperm.map _).map _).nodup_iff).2 hcon.qs

theorem s5_chg {w w' : World} {xb cb : Nat} {T : List Nat} {a b c d e : Value} (h : w.cell? ⟨xb, 3, none⟩ = some a ∧ w.cell? ⟨xb, 4, none⟩ = some b ∧ w.cell? ⟨xb, 5, none⟩ = some c ∧ w.cell? ⟨xb, 6, none⟩ = some d ∧ w.cell? ⟨cb, 3, none⟩ = some e)
    (hn : xb ∉ T ∧ cb ∉ T) (hc : Chg T w w') : w'.cell? ⟨xb, 3, none⟩ = some a ∧ w'.cell? ⟨xb, 4, none⟩ = some b ∧ w'.cell? ⟨xb, 5, none⟩ = some c ∧ w'.cell? ⟨xb, 6, none⟩ = some d ∧ w'.cell? ⟨cb, 3, none⟩ = some e :=
  ⟨hc.cell h.1 hn.1, hc.cell h.2.1 hn.1, hc.cell h.2.2.1 hn.1, hc.cell h.2.2.2.1 hn.1, hc.cell h.2.2.2.2 hn.2⟩
theorem set3_chg (w : World) (b i1 i2 i3 : Nat) (v1 v2 v3 : Value) : Chg [b] w (((w.setCell ⟨b, i1, none⟩ v1).setCell ⟨b, i2, none⟩ v2).setCell ⟨b, i3, none⟩ v3) :=
  (((Chg.refl _ w).setCell (.inl (by simp)) _).setCell (.inl (by simp)) _).setCell (.inl (by simp)) _
theorem CSc.perm {w : World} {cb n k0 k1 : Nat} {now : Int} {row : List Nat} {L L' : List Sl} {K : List (Nat × Nat)} {T : List Ti.It} {p m eb mb lb tb cp : Nat} {tl : List Value} {FT : List Nat} {f : Nat → Option Value} {es : List EnV} (h : CSc w cb n k0 k1 now row L K T p m eb mb lb tb cp tl FT f es) (hL : ∀ x ∈ L', x ∈ L) : CSc w cb n k0 k1 now row L' K T p m eb mb lb tb cp tl FT f es :=
  ⟨h.head, h.ents, h.elen, h.esl, fun x hx => h.eok x (hL x hx), h.lru, h.tim, h.ftt, h.fmb, h.map, h.rows, h.l0, h.l1⟩

section
variable (F : List Nat) (cb n k0 k1 : Nat) (c : Cst) (P : Nat) (w : World)
set_option maxRecDepth 100000 in
set_option maxHeartbeats 8000000 in
theorem find_any (q : Qn) (t : Int) (o : Option En) (code : Nat) (left : Int) (b : Bool) (h : CA F w cb n k0 k1 c P) (hP : P ≤ 900000) (hq1 : q.nm.size ≤ maxLen) (hq2 : q.ty < 65536) (hq3 : q.cl < 65536)
    (ho : Hid (o = gotC c q t)) (hcode : Hid (code = (gotV o).code)) (hleft : Hid (left = leftV o (advC c t).now)) (hb : Hid (b = o.isSome)) :
    Calls Try.prog 15 #[.pointer (some ⟨cb, 0, none⟩), .agg (qV q), .int .i64 t] w fun e w' => ∃ sa sn sc oa on oc, e = .returned (.tuple #[.agg #[.int .u8 (code : Nat), .slice sa sn sc, .slice oa on oc], .int .i64 left, .bool b]) ∧ OwnV w.heap.size w' (code : Nat) (.slice sa sn sc) (.slice oa on oc) (gotV o) ∧ Aft F w w' fun F' => CA F' w' cb n k0 k1 (findC c q t) P := by
  obtain ⟨nm, ty, cl⟩ := q
  unfold qV
  simp only at hq1 hq2 hq3 ⊢
  obtain ⟨mb0, hmb0⟩ : ∃ b, b = mayB nm.data.toList := ⟨_, rfl⟩
  have HMB := Lib.hid hmb0
  have HH := Lib.hid h
  have hn256 := h.n256
  have HOKC := Lib.hid h.ok
  clear h hmb0
  obtain ⟨rr, hrr⟩ : ∃ rr, rr = c.M.length - (advC c t).M.length := ⟨_, rfl⟩
  have HRR := Lib.hid hrr
  clear hrr
  go_enter Try.func15, Try.ntmps15
  go_wp2_with fail
  obtain ⟨pb, hpb⟩ : ∃ pb, pb = w.heap.size := ⟨_, rfl⟩
  rw [← hpb]
  refine calls_abs ?_
  intro w0 hw0
  have hc0 : Chg [] w w0 := by rw [hw0]; exact ((Chg.refl _ _).alloc _).alloc _
  have hp0 : w0.heap[pb]? = some (.cells #[.string nm, .int .u16 (ty : Nat), .int .u16 (cl : Nat)] 24 (0, 0)) := by rw [hw0, hpb]; exact heap_old (heap_new _ _)
  have hv0 : w0.heap[pb + 1]? = some (.cells #[.int .u8 0, .slice none 0 0, .slice none 0 0] 34 (0, 0)) := by rw [hw0, hpb]; exact heap_new' _ _ _ (by simp)
  have hpF : ∀ y ∈ F, y ≠ pb ∧ y ≠ pb + 1 := by intro y hy; have := HH.out.low y hy; omega
  have HP0 := Lib.hid hp0
  have HV0 := Lib.hid hv0
  have HC0 := Lib.hid hc0
  have HPF := Lib.hid hpF
  have HPB := Lib.hid hpb
  clear hpb hw0 hc0 hp0 hv0 hpF
  refine (advance_ca F cb n k0 k1 c P w0 t rr (HH.out.same HC0.out) HRR (by omega)).mono ?_
  rintro e9 w1 ⟨rfl, F1, hA1, hF1, hc1⟩
  have hp1 := hc1.keep HP0.out (fun hh => (HPF.out _ hh).1 rfl)
  have hv1 := hc1.keep HV0.out (fun hh => (HPF.out _ hh).2 rfl)
  have hpF1 : pb ∉ F1 := by
    intro hh
    rcases hF1 _ hh with e | e
    · exact (HPF.out _ e).1 rfl
    · have := lt_of_block HP0.out; omega
  have hvF1 : pb + 1 ∉ F1 := by
    intro hh
    rcases hF1 _ hh with e | e
    · exact (HPF.out _ e).2 rfl
    · have := lt_of_block HV0.out; omega
  have haf : ∀ y ∈ F1, y ∈ F ∨ w.heap.size ≤ y := by
    intro y hy
    rcases hF1 y hy with e | e
    · exact .inl e
    · exact .inr (Nat.le_trans HC0.out.size e)
  have hcw1 : Chg F w w1 := (HC0.out.mono (by simp)).trans hc1
  have p0 : w1.cell? ⟨pb, 0, none⟩ = some (.string nm) := cell_of hp1
  have HP1 := Lib.hid hp1
  have HV1 := Lib.hid hv1
  have HPF1 := Lib.hid hpF1
  have HVF1 := Lib.hid hvF1
  have HAF := Lib.hid haf
  have HCW1 := Lib.hid hcw1
  have HA1 := Lib.hid hA1
  clear hA1 hF1 hc1 hp1 hv1 hpF1 hvF1 haf hcw1 HH HC0 HP0 HV0
  -- nothing is found: the same end three times
  have HNONE : Hid (∀ w9 : World, gotC c ⟨nm, ty, cl⟩ t = none → findC c ⟨nm, ty, cl⟩ t = advC c t → Chg [pb + 1] w1 w9 → w9.heap[pb + 1]? = some (.cells #[.int .u8 0, .slice none 0 0, .slice none 0 0] 34 (0, 0)) →
      code = 0 ∧ left = 0 ∧ b = false ∧ OwnV w.heap.size w9 (code : Nat) (.slice none 0 0) (.slice none 0 0) (gotV o) ∧ Aft F w w9 fun F' => CA F' w9 cb n k0 k1 (findC c ⟨nm, ty, cl⟩ t) P) := Lib.hid (by
    intro w9 hg hf hc9 _
    have e1 : o = none := ho.out.trans hg
    subst e1
    have e2 : code = 0 := hcode.out
    subst e2
    refine ⟨rfl, hleft.out, hb.out, own_none _ _, ?_⟩
    rw [hf]
    refine ⟨F1, HA1.out.other hc9 (by intro y hy; simp at hy; rw [hy]; exact HVF1.out) (noSet_of fun k hk => by simp at hk; rw [hk, ty_cells HV1.out]; exact ⟨by decide, by decide⟩), HAF.out, HCW1.out.trans_new hc9 (by
      intro y hy; simp at hy; right; rw [hy]; have := HPB.out; omega)⟩)
  go_wp2_with fail
  refine (may_any nm mb0 w1 hq1 HMB).mono ?_
  rintro e9 w2 ⟨rfl, rfl⟩
  cases mb0 with
  | false =>
    have hmf : mayQ ⟨nm, ty, cl⟩ = false := HMB.out.symm
    have hg : gotC c ⟨nm, ty, cl⟩ t = none := by unfold gotC; rw [hmf]; rfl
    have hf : findC c ⟨nm, ty, cl⟩ t = advC c t := by unfold findC; rw [hmf]; rfl
    have hv := HV1.out
    have g0 : w1.cell? ⟨pb + 1, 0, none⟩ = some (.int .u8 0) := cell_of hv
    have g1 : w1.cell? ⟨pb + 1, 1, none⟩ = some (.slice none 0 0) := cell_of hv
    have g2 : w1.cell? ⟨pb + 1, 2, none⟩ = some (.slice none 0 0) := cell_of hv
    have f0 : w1.frozen? ⟨pb + 1, 0, none⟩ = false := free_of hv
    have f1 : w1.frozen? ⟨pb + 1, 1, none⟩ = false := free_of hv
    have f2 : w1.frozen? ⟨pb + 1, 2, none⟩ = false := free_of hv
    have HG := Lib.hid hg
    have HF9 := Lib.hid hf
    clear hmf hg hf hv p0
    go_wp2_with fail
    refine post_abs ?_
    intro w9 hw9
    have hst : Chg [pb + 1] w1 w9 := by rw [hw9]; exact set3_chg _ _ _ _ _ _ _ _
    have h9 : w9.heap[pb + 1]? = some (.cells #[.int .u8 0, .slice none 0 0, .slice none 0 0] 34 (0, 0)) := by
      rw [hw9, heap_set (heap_set (heap_set HV1.out _) _) _]
      rfl
    obtain ⟨e1, e2, e3, hov, haf9⟩ := HNONE.out w9 HG.out HF9.out hst h9
    subst e1
    subst e2
    subst e3
    have m0 : w9.cell? ⟨pb + 1, 0, none⟩ = some (.int .u8 0) := cell_of h9
    have m1 : w9.cell? ⟨pb + 1, 1, none⟩ = some (.slice none 0 0) := cell_of h9
    have m2 : w9.cell? ⟨pb + 1, 2, none⟩ = some (.slice none 0 0) := cell_of h9
    clear hw9 h9 hst
    exact bodyPost_ret (v := .tuple #[.agg #[.int .u8 0, .slice none 0 0, .slice none 0 0], .int .i64 0, .bool false]) (by simp [results, Try.results15, go_sem, m0, m1, m2]) rfl ⟨none, 0, 0, none, 0, 0, rfl, hov, haf9⟩
  | true =>
    have hmt : mayQ ⟨nm, ty, cl⟩ = true := HMB.out.symm
    have HMT := Lib.hid hmt
    have p1' : w1.cell? ⟨pb, 1, none⟩ = some (.int .u16 (ty : Nat)) := cell_of HP1.out
    have p2' : w1.cell? ⟨pb, 2, none⟩ = some (.int .u16 (cl : Nat)) := cell_of HP1.out
    obtain ⟨fn, hfn⟩ : ∃ fn, fn = foldS nm := ⟨_, rfl⟩
    have hfold := folded_any ⟨nm, ty, cl⟩ w1 hq1
    unfold qV foldQ at hfold
    simp only at hfold
    rw [← hfn] at hfold
    have hfs : fn.size ≤ 255 := by rw [hfn]; exact foldS_size nm
    have hfq : foldQ ⟨nm, ty, cl⟩ = ⟨fn, ty, cl⟩ := by unfold foldQ; rw [hfn]
    have HFQ := Lib.hid hfq
    have HFOLD := Lib.hid hfold
    obtain ⟨L1, pp, mm, hCF1, hens1, hok1, hp1, hm1⟩ := HA1.out
    have HENS1 := Lib.hid hens1
    have HOK1 := Lib.hid hok1
    have HCF1 := Lib.hid hCF1
    clear hfn hfold hfq hmt hens1 hok1 hCF1
    go_wp2_with fail
    refine HFOLD.out.mono ?_
    rintro e9 w3 ⟨rfl, hc3⟩
    have hcf3 := HCF1.out.same hc3
    obtain ⟨K1, T1, hS3, hcon3, hsy3⟩ := id hcf3
    obtain ⟨so, hso⟩ : ∃ so, so = slotF L1 ⟨fn, ty, cl⟩ := ⟨_, rfl⟩
    have hsl := slot_any F1 cb n k0 k1 _ (rowS L1) L1 K1 T1 pp mm w3 ⟨fn, ty, cl⟩ hS3 hcon3 hfs hq2 hq3
    rw [← hso] at hsl
    have hlru := hcf3.lru
    have hgm : getM (advC c t).M (foldQ ⟨nm, ty, cl⟩) = so.map (·.e) := by rw [← HENS1.out, getM_of, HFQ.out, hso]
    have hgc : gotC c ⟨nm, ty, cl⟩ t = so.map (·.e) := by unfold gotC; rw [if_pos HMT.out, hgm]
    have HC3 := Lib.hid hc3
    have HS3 := Lib.hid hS3
    have HCON3 := Lib.hid hcon3
    have HSY3 := Lib.hid hsy3
    have HLRU := Lib.hid hlru
    have HSO := Lib.hid hso
    have HGM := Lib.hid hgm
    have HGC := Lib.hid hgc
    clear hcf3 hS3 hcon3 hsy3 hlru hso hgm hgc hc3 p0 p1' p2'
    cases so with
    | none =>
      simp only [slotV] at hsl
      have HG : Hid (gotC c ⟨nm, ty, cl⟩ t = none) := HGC
      have HF9 : Hid (findC c ⟨nm, ty, cl⟩ t = advC c t) := Lib.hid (by
        unfold findC useM
        rw [if_pos HMT.out, HGM.out]
        rfl)
      have HSL := Lib.hid hsl
      clear hsl
      go_wp2_with fail
      refine HSL.out.mono ?_
      rintro e9 w4 ⟨rfl, hc4⟩
      have HC4 := Lib.hid (HC3.out.trans hc4)
      have HV4 := Lib.hid (HC4.out.keep HV1.out (by simp))
      have hv := HV4.out
      have g0 : w4.cell? ⟨pb + 1, 0, none⟩ = some (.int .u8 0) := cell_of hv
      have g1 : w4.cell? ⟨pb + 1, 1, none⟩ = some (.slice none 0 0) := cell_of hv
      have g2 : w4.cell? ⟨pb + 1, 2, none⟩ = some (.slice none 0 0) := cell_of hv
      have f0 : w4.frozen? ⟨pb + 1, 0, none⟩ = false := free_of hv
      have f1 : w4.frozen? ⟨pb + 1, 1, none⟩ = false := free_of hv
      have f2 : w4.frozen? ⟨pb + 1, 2, none⟩ = false := free_of hv
      clear hv hc4
      go_wp2_with fail
      refine post_abs ?_
      intro w9 hw9
      have hst : Chg [pb + 1] w4 w9 := by rw [hw9]; exact set3_chg _ _ _ _ _ _ _ _
      have h9 : w9.heap[pb + 1]? = some (.cells #[.int .u8 0, .slice none 0 0, .slice none 0 0] 34 (0, 0)) := by
        rw [hw9, heap_set (heap_set (heap_set HV4.out _) _) _]
        rfl
      obtain ⟨e1, e2, e3, hov, haf9⟩ := HNONE.out w9 HG.out HF9.out ((HC4.out.mono (by simp)).trans hst) h9
      subst e1
      subst e2
      subst e3
      have m0 : w9.cell? ⟨pb + 1, 0, none⟩ = some (.int .u8 0) := cell_of h9
      have m1 : w9.cell? ⟨pb + 1, 1, none⟩ = some (.slice none 0 0) := cell_of h9
      have m2 : w9.cell? ⟨pb + 1, 2, none⟩ = some (.slice none 0 0) := cell_of h9
      clear hw9 h9 hst
      exact bodyPost_ret (v := .tuple #[.agg #[.int .u8 0, .slice none 0 0, .slice none 0 0], .int .i64 0, .bool false]) (by simp [results, Try.results15, go_sem, m0, m1, m2]) rfl ⟨none, 0, 0, none, 0, 0, rfl, hov, haf9⟩
    | some x =>
      obtain ⟨s, ⟨xq, xv, xt⟩⟩ := x
      simp only [slotV] at hsl
      have hx : (⟨s, ⟨xq, xv, xt⟩⟩ : Sl) ∈ L1 := List.mem_of_find?_eq_some HSO.out.symm
      have hxq : xq = ⟨fn, ty, cl⟩ := by
        have := List.find?_some HSO.out.symm
        simpa using this
      subst hxq
      have hsn : s < n := HLRU.out.2.1 s (List.mem_map.2 ⟨_, hx, rfl⟩)
      have hcu := con_use HCON3.out HSY3.out hx
      have hto : o = some ⟨⟨fn, ty, cl⟩, xv, xt⟩ := ho.out.trans HGC.out
      subst hto
      have hcd : code = xv.code := hcode.out
      subst hcd
      have hbt : b = true := hb.out
      subst hbt
      have HX := Lib.hid hx
      have HCU := Lib.hid hcu
      have HSL := Lib.hid hsl
      clear hsl hx hcu HNONE
      go_wp2_with fail
      refine HSL.out.mono ?_
      rintro e9 w4 ⟨rfl, hc4⟩
      have HC4 := Lib.hid (HC3.out.trans hc4)
      obtain ⟨eb, mb, lb, tb, cp, tl, FT, f, es, hC, hF⟩ := (HS3.out.same hc4)
      have c6 : w4.cell? ⟨cb, 6, none⟩ = some (.pointer (some ⟨lb, 0, none⟩)) := cell_of hC.head
      have HC := Lib.hid hC
      have HFW := Lib.hid hF
      clear hC hF hc4 HSL
      go_wp2_with fail
      refine (Lr.use_in lb n s _ w4 HC.out.lru hsn).mono ?_
      rintro e9 w5 ⟨rfl, hl5, hc5⟩
      have hC5 := HC.out.order hc5 hl5
      have hse : s < es.length := by rw [hC5.elen]; exact hsn
      obtain ⟨en, hen⟩ : ∃ en, en = es[s] := ⟨_, rfl⟩
      have hE : EntOk w5 ⟨⟨fn, ty, cl⟩, xv, xt⟩ en := by rw [hen]; exact (hC5.eok _ HX.out).2 hse
      have hsl5 := hC5.esl es[s] (List.getElem_mem hse)
      rw [← hen] at hsl5
      obtain ⟨eq, ec, esv, eov, etil⟩ := en
      obtain ⟨h1, h2, h3⟩ := hE
      simp only at h1 h2 h3 hsl5
      subst h1
      subst h2
      obtain ⟨sa, sn, sc, rfl⟩ := slice_of hsl5.1
      obtain ⟨oa, on, oc, rfl⟩ := slice_of hsl5.2
      have hec := h3.code
      subst hec
      have HRD := Lib.hid h3.rd
      have c4 : w5.cell? ⟨cb, 4, none⟩ = some (.slice (some ⟨eb, 0, none⟩) n cp) := cell_of hC5.head
      have g0 : w5.cell? ⟨eb, s * 7, none⟩ = some (.string fn) := by rw [cell_of hC5.ents]; exact eRow_get hse (j := 0) (by rw [← hen]; rfl)
      have g1 : w5.cell? ⟨eb, s * 7 + 1, none⟩ = some (.int .u16 (ty : Nat)) := by rw [cell_of hC5.ents]; exact eRow_get hse (j := 1) (by rw [← hen]; rfl)
      have g2 : w5.cell? ⟨eb, s * 7 + 2, none⟩ = some (.int .u16 (cl : Nat)) := by rw [cell_of hC5.ents]; exact eRow_get hse (j := 2) (by rw [← hen]; rfl)
      have g3 : w5.cell? ⟨eb, s * 7 + 3, none⟩ = some (.int .u8 (xv.code : Nat)) := by rw [cell_of hC5.ents]; exact eRow_get hse (j := 3) (by rw [← hen]; rfl)
      have g4 : w5.cell? ⟨eb, s * 7 + 4, none⟩ = some (.slice sa sn sc) := by rw [cell_of hC5.ents]; exact eRow_get hse (j := 4) (by rw [← hen]; rfl)
      have g5 : w5.cell? ⟨eb, s * 7 + 5, none⟩ = some (.slice oa on oc) := by rw [cell_of hC5.ents]; exact eRow_get hse (j := 5) (by rw [← hen]; rfl)
      have g6 : w5.cell? ⟨eb, s * 7 + 6, none⟩ = some (.int .i64 etil) := by rw [cell_of hC5.ents]; exact eRow_get hse (j := 6) (by rw [← hen]; rfl)
      have c3 : w5.cell? ⟨cb, 3, none⟩ = some (.int .i64 (advC c t).now) := cell_of hC5.head
      have hlb : lb ≠ pb + 1 := by
        intro e
        exact HVF1.out (e ▸ (HFW.out lb).2 (.inr (.inr (.inr (.inl rfl)))))
      have HV5 := Lib.hid (hc5.keep (HC4.out.keep HV1.out (by simp)) (by simp; exact fun e => hlb e.symm))
      have HC5 := Lib.hid hC5
      have hchF : Chg F1 w1 w5 := (HC4.out.mono (by simp)).trans (hc5.mono (fun y hy => by simp at hy; rw [hy]; exact (HFW.out lb).2 (.inr (.inr (.inr (.inl rfl))))))
      have HCH5 := Lib.hid hchF
      have hti := HOK1.out.til _ (by rw [← HENS1.out]; exact List.mem_map.2 ⟨_, HX.out, rfl⟩)
      simp only at hti
      obtain ⟨ht0, ht1⟩ := hti
      have hnow0 := HOK1.out.now0
      have hnow1 := HOK1.out.now1
      have hle : left = etil - (advC c t).now := hleft.out
      unfold topT at hnow1 ht1
      obtain ⟨nw, hnw⟩ : ∃ nw, nw = (advC c t).now := ⟨_, rfl⟩
      rw [← hnw] at c3 hnow0 hnow1 ht0 hle
      have HNW := Lib.hid hnw
      have HLE := Lib.hid hle
      clear hnw hC5 hc5 hl5 hen h3 hsl5 hlb hchF hle c6
      go_wp2_with fail
      obtain ⟨xb, hxb⟩ : ∃ xb, xb = w5.heap.size := ⟨_, rfl⟩
      rw [← hxb]
      refine wp_abs ?_
      intro w6 hw6
      have hc6 : Chg [] w5 w6 := by rw [hw6]; exact (Chg.refl _ _).alloc _
      have hx6 : w6.heap[xb]? = some (.cells #[.string fn, .int .u16 (ty : Nat), .int .u16 (cl : Nat), .int .u8 (xv.code : Nat), .slice sa sn sc, .slice oa on oc, .int .i64 etil] 78 (0, 0)) := by rw [hw6, hxb]; exact heap_new _ _
      have hV6 := hc6.keep HV5.out (by simp)
      have S6 : Hid (w6.cell? ⟨xb, 3, none⟩ = some (.int .u8 (xv.code : Nat)) ∧ w6.cell? ⟨xb, 4, none⟩ = some (.slice sa sn sc) ∧ w6.cell? ⟨xb, 5, none⟩ = some (.slice oa on oc) ∧ w6.cell? ⟨xb, 6, none⟩ = some (.int .i64 etil) ∧ w6.cell? ⟨cb, 3, none⟩ = some (.int .i64 nw)) :=
        Lib.hid ⟨cell_of hx6, cell_of hx6, cell_of hx6, cell_of hx6, hc6.cell c3 (by simp)⟩
      have hne : xb ∉ [pb + 1] ∧ cb ∉ [pb + 1] := by
        have e1 := lt_of_block HV5.out
        refine ⟨by simp; omega, ?_⟩
        simp
        intro e
        exact HVF1.out (e ▸ (HFW.out cb).2 (.inl rfl))
      have HNE := Lib.hid hne
      have HC6 := Lib.hid hc6
      have HV6 := Lib.hid hV6
      have HRD6 := Lib.hid ((HRD.out.same hc6).same (Chg.refl [] w6).drew)
      clear hw6 hc6 hx6 hV6 hne hxb g0 g1 g2 g3 g4 g5 g6 c3 c4
      go_region_held3 (fun W => W.cell? ⟨xb, 3, none⟩ = some (.int .u8 (xv.code : Nat)) ∧ W.cell? ⟨xb, 4, none⟩ = some (.slice sa sn sc) ∧ W.cell? ⟨xb, 5, none⟩ = some (.slice oa on oc) ∧ W.cell? ⟨xb, 6, none⟩ = some (.int .i64 etil) ∧ W.cell? ⟨cb, 3, none⟩ = some (.int .i64 nw)) (first | (with_reducible exact S7.out) | (with_reducible exact s5_chg S7.out HNE.out (set3_chg _ _ _ _ _ _ _ _)) | exact S6.out) (first | (go_at_call 32; refine (copied_any (xv.code : Nat) sa oa sn sc on oc xv w6.drew HRD6.out).mono ?_; rintro e9 w7 ⟨sa', sc', oa', oc', rfl, hov, hc7⟩; replace hc7 := hc7.undrew; have S7 := Lib.hid (s5_chg S6.out ⟨by simp, by simp⟩ hc7); have HOV := Lib.hid (hov.low (Nat.le_trans (Nat.le_trans HCW1.out.size HCH5.out.size) HC6.out.size)); have HC7 := Lib.hid (HC6.out.trans hc7); have hV7 := hc7.keep HV6.out (by simp); have HV7 := Lib.hid hV7; have g0 : w7.cell? ⟨pb + 1, 0, none⟩ = some (.int .u8 0) := cell_of hV7; have g1 : w7.cell? ⟨pb + 1, 1, none⟩ = some (.slice none 0 0) := cell_of hV7; have g2 : w7.cell? ⟨pb + 1, 2, none⟩ = some (.slice none 0 0) := cell_of hV7; have f0 : w7.frozen? ⟨pb + 1, 0, none⟩ = false := free_of hV7; have f1 : w7.frozen? ⟨pb + 1, 1, none⟩ = false := free_of hV7; have f2 : w7.frozen? ⟨pb + 1, 2, none⟩ = false := free_of hV7; clear hV7 hc7 hov))
      have hst := set3_chg w7 (pb + 1) 0 1 2 (.int .u8 (xv.code : Nat)) (.slice sa' sn sc') (.slice oa' on oc')
      have hst' : Chg [pb + 1] w7 (((w7.setCell ⟨pb + 1, 0, none⟩ (.int .u8 (xv.code : Nat))).setCell ⟨pb + 1, 1, none⟩ (.slice sa' sn sc')).setCell ⟨pb + 1, 2, none⟩ (.slice oa' on oc')) := hst
      have h8 : (((w7.setCell ⟨pb + 1, 0, none⟩ (.int .u8 (xv.code : Nat))).setCell ⟨pb + 1, 1, none⟩ (.slice sa' sn sc')).setCell ⟨pb + 1, 2, none⟩ (.slice oa' on oc')).heap[pb + 1]? = some (.cells #[.int .u8 (xv.code : Nat), .slice sa' sn sc', .slice oa' on oc'] 34 (0, 0)) := by
        rw [heap_set (heap_set (heap_set HV7.out _) _) _]
        rfl
      refine post_abs ?_
      intro w8 hw8
      rw [← hw8] at hst' h8
      have hns7 : NoSet [pb + 1] w7 := noSet_of fun k hk => by simp at hk; rw [hk, ty_cells HV7.out]; exact ⟨by decide, by decide⟩
      have hns5 : NoSet [pb + 1] w5 := noSet_of fun k hk => by simp at hk; rw [hk, ty_cells HV5.out]; exact ⟨by decide, by decide⟩
      have hov8 := HOV.out.chg hst' hns7
      have hc58 : Chg [pb + 1] w5 w8 := (HC7.out.mono (by simp)).trans hst'
      have hC5' := HC5.out.perm (L' := cutS L1 s ++ [⟨s, ⟨⟨fn, ty, cl⟩, xv, etil⟩⟩]) (fun y hy => HCU.out.2.2.2.mem_iff.1 hy)
      have hS8 : CS F1 w8 cb n k0 k1 (advC c t).now (Lr.useL (rowS L1) s) (cutS L1 s ++ [⟨s, ⟨⟨fn, ty, cl⟩, xv, etil⟩⟩]) K1 T1 pp mm :=
        CS.other ⟨eb, mb, lb, tb, cp, tl, FT, f, es, hC5', HFW.out⟩ hc58 (by intro y hy; simp at hy; rw [hy]; exact HVF1.out) hns5
      rw [HCU.out.1] at hS8
      have hfd : findC c ⟨nm, ty, cl⟩ t = ⟨(advC c t).now, ensS (cutS L1 s ++ [⟨s, ⟨⟨fn, ty, cl⟩, xv, etil⟩⟩])⟩ := by
        unfold findC useM
        rw [if_pos HMT.out, HGM.out, HFQ.out, ← HENS1.out]
        have hce := cutS_ens HCON3.out.nd HCON3.out.qs HX.out
        simp only at hce
        simp only [Option.map_some]
        rw [← hce]
        simp [ensS]
      have hokf : OkM n (findC c ⟨nm, ty, cl⟩ t) := HOKC.out.find _ t
      have hfin : Aft F w w8 fun F' => CA F' w8 cb n k0 k1 (findC c ⟨nm, ty, cl⟩ t) P := by
        rw [hfd] at hokf ⊢
        refine ⟨F1, ⟨_, pp, mm, ⟨K1, T1, hS8, HCU.out.2.1, HCU.out.2.2.1⟩, rfl, hokf, hp1, hm1⟩, HAF.out, (HCW1.out.trans_new HCH5.out HAF.out).trans_new hc58 (by
          intro y hy; simp at hy; right; rw [hy]; have := HPB.out; omega)⟩
      have m0 : w8.cell? ⟨pb + 1, 0, none⟩ = some (.int .u8 (xv.code : Nat)) := cell_of h8
      have m1 : w8.cell? ⟨pb + 1, 1, none⟩ = some (.slice sa' sn sc') := cell_of h8
      have m2 : w8.cell? ⟨pb + 1, 2, none⟩ = some (.slice oa' on oc') := cell_of h8
      have HFIN := Lib.hid hfin
      have HOV8 := Lib.hid hov8
      have hl2 := HLE.out
      subst hl2
      clear hw8 h8 hst hst' hfin hokf hfd hS8 hC5' hc58 hov8 hns5 hns7 g0 g1 g2 f0 f1 f2 S6 S7
      have hwr : IntKind.i64.wrap (etil - nw) = etil - nw := IntWalk.i64_in _ (by omega)
      go_wp2_with fail
      exact bodyPost_ret (v := .tuple #[.agg #[.int .u8 (xv.code : Nat), .slice sa' sn sc', .slice oa' on oc'], .int .i64 (etil - nw), .bool true]) (by simp [results, Try.results15, go_sem, m0, m1, m2, hwr]) rfl ⟨_, _, _, _, _, _, rfl, HOV8.out, HFIN.out⟩
end

end Go.Proofs.Ytgdnfempcjlipaa
