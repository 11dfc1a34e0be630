/- The walks of copiedSets and copied. -/
import Derived.Test.YtgdnfempcjlipaaCacA
import Derived.Deep.RegionHeld3
import Derived.RegionTactic
import Derived.BigRegion
import Derived.WalkLawsBesides
import Derived.WalkSpells
import Derived.Outline
import Derived.Deep.QuietTactic
import Derived.BigQuiet
namespace Go.Proofs.Ytgdnfempcjlipaa
open Go.RowKit

theorem flat_set {α : Type} (f : α → List Value) (sz : Nat) (hf : ∀ x, (f x).length = sz) (y : α) (j : Nat) (u : Value) (hj : j < sz) : ∀ (l : List α) (i : Nat) (h : i < l.length), (f l[i]).set j u = f y → (l.flatMap f).set (i * sz + j) u = (l.set i y).flatMap f := by
  intro l
  induction l with
  | nil => intro i h; simp at h
  | cons x l ih =>
    intro i h he
    cases i with
    | zero =>
      simp only [List.getElem_cons_zero] at he
      rw [Nat.zero_mul, Nat.zero_add, List.flatMap_cons, List.set_append_left _ _ (by rw [hf]; exact hj), he]
      rfl
    | succ i =>
      simp only [List.getElem_cons_succ] at he
      rw [Nat.add_mul, Nat.one_mul, List.flatMap_cons, List.set_append_right _ _ (by rw [hf]; omega), hf, show i * sz + sz + j - sz = i * sz + j by omega, ih i (by simpa using h) he]
      rfl
theorem R.OwnR.set {α : Type} {t : TypeId} {sz : Nat} {f : α → List Value} {base : Nat} {w : World} {g n c : Nat} {l : List α} (h : R.OwnR t sz f base w (.slice (some ⟨g, 0, none⟩) n c) l) (hf : ∀ x, (f x).length = sz) {i j : Nat} (hi : i < l.length) (hj : j < sz) {u : Value} {y : α} (he : (f l[i]).set j u = f y) :
    R.OwnR t sz f base (w.setCell ⟨g, i * sz + j, none⟩ u) (.slice (some ⟨g, 0, none⟩) n c) (l.set i y) := by
  obtain ⟨h1, h2⟩ := h
  have hl : (l.set i y).length = l.length := by simp
  refine ⟨by rw [R.flat_len f sz hf], ?_⟩
  rw [hl]
  rcases h2 with ⟨hv, _⟩ | ⟨g', cap, cur, hv, hb, hh, h3, h4, h5, h6⟩
  · cases hv
  · cases hv
    right
    refine ⟨g, c, cur.setIfInBounds (i * sz + j) u, rfl, hb, heap_set hh u, h3, h4, by simpa using h5, ?_⟩
    rw [Array.toList_setIfInBounds, List.take_set, h6]
    exact flat_set f sz hf y j u hj l i hi he

/-- Copies of sets under way: the data of the first k are copied. -/
structure CpS (w wr : World) (v' : Value) (ds es : List (SetP × Value)) (k : Nat) : Prop where
  len : es.length = ds.length
  fst : es.map (·.1) = ds.map (·.1)
  row : R.OwnR 84 5 setV w.heap.size wr v' es
  done : ∀ j (h : j < es.length), j < k → R.OwnR 9 1 strV w.heap.size wr es[j].2 es[j].1.data
  rest : ∀ j (h : j < es.length) (h' : j < ds.length), k ≤ j → es[j] = ds[j]
  chg : Chg [] w wr
def CpSR (w : World) (v' : Value) (ds : List (SetP × Value)) (i : Value) (wr : World) : Prop := ∃ (k : Nat) (es : List (SetP × Value)), k ≤ ds.length ∧ i = .int .i64 (k : Nat) ∧ CpS w wr v' ds es k
theorem CpS.step {w wr w2 : World} {g c k : Nat} {n : Nat} {ds es : List (SetP × Value)} {a : Option Addr} {m cc : Nat} (h : CpS w wr (.slice (some ⟨g, 0, none⟩) n c) ds es k) (hk : k < es.length) (ho : R.OwnR 9 1 strV wr.heap.size w2 (.slice a m cc) es[k].1.data) (hc : Chg [] wr w2) :
    CpS w (w2.setCell ⟨g, k * 5 + 4, none⟩ (.slice a m cc)) (.slice (some ⟨g, 0, none⟩) n c) ds (es.set k (es[k].1, .slice a m cc)) (k + 1) := by
  have hrow := h.row.same hc
  obtain ⟨hgb, hgl, cg, hcg⟩ := hrow.blk g rfl
  have hst : ∀ v0 l0 b0, R.OwnR 9 1 strV b0 w2 v0 l0 → R.OwnR 9 1 strV b0 (w2.setCell ⟨g, k * 5 + 4, none⟩ (.slice a m cc)) v0 l0 := by
    intro v0 l0 b0 h0
    refine h0.keep fun g' hg' => heap_set_other _ fun e => ?_
    subst e
    obtain ⟨_, _, c', hc'⟩ := h0.blk g' hg'
    rw [hcg] at hc'
    injection hc' with hc'
    injection hc' with _ ht
    exact absurd ht (by decide)
  refine ⟨by simpa using h.len, ?_, hrow.set setV_len hk (by omega) rfl, ?_, ?_, (h.chg.trans hc).setCell (.inr hgb) _⟩
  · rw [List.map_set, ← h.fst]
    apply List.ext_getElem (by simp)
    intro i h1 h2
    rw [List.getElem_set]
    split
    · rename_i e; subst e; simp
    · simp
  · intro j hj hjk
    have hj' : j < es.length := by simpa using hj
    by_cases e : j = k
    · subst e
      simp only [List.getElem_set_self]
      exact (hst _ _ _ ho).low h.chg.size
    · have e2 : (es.set k (es[k].1, Value.slice a m cc))[j] = es[j] := by rw [List.getElem_set_ne (fun h => e h.symm)]
      rw [e2]
      exact hst _ _ _ ((h.done j hj' (by omega)).same hc)
  · intro j hj hj2 hkj
    rw [List.getElem_set_ne (by omega)]
    exact h.rest j (by simpa using hj) hj2 (by omega)
theorem CpS.all {w wr : World} {v' : Value} {ds es : List (SetP × Value)} {l : List SetP} (h : CpS w wr v' ds es ds.length) (hl : l.length ≤ 1000) (he : ds.map (·.1) = l) (hd : ∀ x ∈ ds, OkSet x.1) : OwnSets w.heap.size wr v' l := by
  refine ⟨hl, es, by rw [h.fst, he], h.row, fun x hx => ?_⟩
  obtain ⟨i, hi, rfl⟩ := List.getElem_of_mem hx
  refine ⟨?_, h.done i hi (by rw [← h.len]; exact hi)⟩
  have : es[i].1 ∈ ds.map (·.1) := by rw [← h.fst]; exact List.mem_map.2 ⟨es[i], List.getElem_mem hi, rfl⟩
  obtain ⟨y, hy, e⟩ := List.mem_map.1 this
  rw [← e]
  exact hd y hy
set_option maxRecDepth 100000 in
set_option maxHeartbeats 4000000 in
theorem copiedSets_any (a : Option Addr) (n c : Nat) (l : List SetP) (w : World) (h : RdSets w (.slice a n c) l) :
    Calls Try.prog 54 #[.slice a n c] w fun e w' => ∃ a' c', e = .returned (.slice a' n c') ∧ OwnSets w.heap.size w' (.slice a' n c') l ∧ Chg [] w w' := by
  obtain ⟨hl, ds, hds, hrd, hx⟩ := h
  have hdl : ds.length = l.length := by rw [← hds]; simp
  have hn : n = ds.length := by obtain ⟨_, _, e, _⟩ := hrd; injection e
  have hd1 : ds.length ≤ 1000 := by omega
  have hok : ∀ x ∈ ds, OkSet x.1 := fun x hh => (hx x hh).1
  have HX := Lib.hid hx
  have HF := Lib.hid (And.intro hl (And.intro hds hok))
  have HRD := Lib.hid hrd
  clear hx hl hds hdl hok hrd
  subst hn
  go_enter Try.func54, Try.ntmps54
  go_wp2_with fail
  refine (clone_set _ ds _ HRD.out hd1 (fun x hh => (HX.out x hh).2.slice)).mono ?_
  rintro e w1 ⟨v', rfl, ho, hc⟩
  obtain ⟨a', c', rfl⟩ := ho.len
  have HO := Lib.hid ho
  have HC := Lib.hid hc
  clear ho hc
  go_wp2_with fail
  go_loopw [8] (CpSR w (.slice a' ds.length c') ds) (fun i _ => ds.length - (intOf i).toNat)
  case atStart => exact ⟨0, ds, Nat.zero_le _, rfl, rfl, rfl, HO.out, fun j _ hj => absurd hj (Nat.not_lt_zero _), fun j _ _ _ => rfl, HC.out⟩
  case round =>
    obtain ⟨k, es, hk, rfl, hcp⟩ := hrel
    have hel := hcp.len
    by_cases hlt : k < ds.length
    · have hke : k < es.length := by omega
      obtain ⟨g, c2, hv, hgb, hgl, hcell⟩ := hcp.row.cells setV_len (by omega)
      rw [hel] at hv
      injection hv with hv1 hv2 hv3
      subst hv1
      subst hv3
      have hes := hcp.rest k hke hlt (Nat.le_refl _)
      have hrdk := (HX.out ds[k] (List.getElem_mem hlt)).2
      have hlk := (HX.out ds[k] (List.getElem_mem hlt)).1.len
      rw [← hes] at hrdk hlk
      obtain ⟨da, dc, hdv, _⟩ := id hrdk
      have k4 : wr.cell? ⟨g, k * 5 + 4, none⟩ = some (.slice da es[k].1.data.length dc) := hcell k hke 4 _ (by rw [← hdv]; rfl)
      have f4 : wr.frozen? ⟨g, k * 5 + 4, none⟩ = false := by
        obtain ⟨_, _, cg, hcg⟩ := hcp.row.blk g rfl
        exact free_of hcg
      rw [hdv] at hrdk
      have hkn : k ≤ 1000 := by omega
      obtain ⟨dl, hdl⟩ : ∃ dl, dl = es[k].1.data.length := ⟨_, rfl⟩
      rw [← hdl] at k4 hrdk
      have HCP := Lib.hid hcp
      have HRDK := Lib.hid (hrdk.same hcp.chg)
      have HLK := Lib.hid hlk
      have HDL := Lib.hid hdl
      clear hcp hrdk hlk hdl hdv hcell hes hgb HO
      go_wp2_with fail
      refine (clone_str _ es[k].1.data _ HRDK.out HLK.out).mono ?_
      rintro e9 w2 ⟨v2, rfl, ho2, hc2⟩
      obtain ⟨a2, c2', rfl⟩ := ho2.len
      rw [← HDL.out] at ho2
      have hnew := HCP.out.step hke ho2 hc2
      have HNEW := Lib.hid hnew
      have k4' := hc2.cell k4 (by simp)
      have f4' : w2.frozen? ⟨g, k * 5 + 4, none⟩ = false := by
        obtain ⟨_, _, cg, hcg⟩ := (HCP.out.row.same hc2).blk g rfl
        exact free_of hcg
      rw [← HDL.out]
      clear hnew hc2 ho2 k4 f4
      go_wp2
      go_roundw
      case rel => exact ⟨k + 1, _, by omega, by go_num, HNEW.out⟩
      case measure => simp [intOf] <;> omega
    · obtain rfl : k = ds.length := by omega
      have hfin := hcp.all HF.out.1 HF.out.2.1 HF.out.2.2
      have hch := hcp.chg
      clear hcp HO
      go_wp2
      go_ret
      exact ⟨_, _, rfl, hfin, hch⟩

theorem c3c_set {w : World} {b : Nat} {x y z : Value} (h : w.cell? ⟨b, 0, none⟩ = some x ∧ w.cell? ⟨b, 1, none⟩ = some y ∧ w.cell? ⟨b, 2, none⟩ = some z) (i : Nat) (v : Value) : (w.setCell ⟨b + 1, i, none⟩ v).cell? ⟨b, 0, none⟩ = some x ∧ (w.setCell ⟨b + 1, i, none⟩ v).cell? ⟨b, 1, none⟩ = some y ∧ (w.setCell ⟨b + 1, i, none⟩ v).cell? ⟨b, 2, none⟩ = some z := by
  have hc : Chg [b + 1] w (w.setCell ⟨b + 1, i, none⟩ v) := Chg.set1 _ _ _ _
  exact ⟨hc.cell h.1 (by simp), hc.cell h.2.1 (by simp), hc.cell h.2.2 (by simp)⟩
theorem c3c_drew {w : World} {p q r : Addr} {a b c : Value} (h : w.cell? p = some a ∧ w.cell? q = some b ∧ w.cell? r = some c) : w.drew.cell? p = some a ∧ w.drew.cell? q = some b ∧ w.drew.cell? r = some c := h
theorem c3c_chg {w w' : World} {p q r : Addr} {a b c : Value} (h : w.cell? p = some a ∧ w.cell? q = some b ∧ w.cell? r = some c) (hc : Chg [] w w') : w'.cell? p = some a ∧ w'.cell? q = some b ∧ w'.cell? r = some c :=
  ⟨hc.cell h.1 (by simp), hc.cell h.2.1 (by simp), hc.cell h.2.2 (by simp)⟩
set_option maxRecDepth 100000 in
set_option maxHeartbeats 4000000 in
theorem copied_any (code : Int) (sa oa : Option Addr) (sn sc on oc : Nat) (v : Ver) (w : World) (h : RdV w code (.slice sa sn sc) (.slice oa on oc) v) :
    Calls Try.prog 32 #[.agg #[.int .u8 code, .slice sa sn sc, .slice oa on oc]] w fun e w' => ∃ sa' sc' oa' oc', e = .returned (.agg #[.int .u8 code, .slice sa' sn sc', .slice oa' on oc']) ∧ OwnV w.heap.size w' code (.slice sa' sn sc') (.slice oa' on oc') v ∧ Chg [] w w' := by
  have HV := Lib.hid h
  clear h
  go_enter Try.func32, Try.ntmps32
  go_wp2_with fail
  obtain ⟨b1, hb1⟩ : ∃ b1, b1 = w.heap.size := ⟨_, rfl⟩
  rw [← hb1]
  refine wp_abs ?_
  intro w0 hw0
  have hc0 : Chg [] w w0 := by rw [hw0]; exact ((Chg.refl _ _).alloc _).alloc _
  have k0 : w0.cell? ⟨b1, 0, none⟩ = some (.int .u8 code) := by rw [hw0, hb1]; exact cell_of (heap_old (heap_new _ _))
  have k1 : w0.cell? ⟨b1, 1, none⟩ = some (.slice sa sn sc) := by rw [hw0, hb1]; exact cell_of (heap_old (heap_new _ _))
  have k2 : w0.cell? ⟨b1, 2, none⟩ = some (.slice oa on oc) := by rw [hw0, hb1]; exact cell_of (heap_old (heap_new _ _))
  have h0 : w0.heap[b1 + 1]? = some (.cells #[.int .u8 0, .slice none 0 0, .slice none 0 0] 34 (0, 0)) := by rw [hw0, hb1]; exact heap_new' _ _ _ (by simp)
  have S0 : Hid (w0.cell? ⟨b1, 0, none⟩ = some (.int .u8 code) ∧ w0.cell? ⟨b1, 1, none⟩ = some (.slice sa sn sc) ∧ w0.cell? ⟨b1, 2, none⟩ = some (.slice oa on oc)) := Lib.hid ⟨k0, k1, k2⟩
  have H0 := Lib.hid h0
  have HC0 := Lib.hid hc0
  have hb0 : w.heap.size ≤ b1 + 1 := by omega
  clear hw0 hc0 k0 k1 k2 h0 hb1
  go_region_held3 (fun W => W.cell? ⟨b1, 0, none⟩ = some (.int .u8 code) ∧ W.cell? ⟨b1, 1, none⟩ = some (.slice sa sn sc) ∧ W.cell? ⟨b1, 2, none⟩ = some (.slice oa on oc)) (first | (with_reducible exact S2.out) | (with_reducible exact S1.out) | (with_reducible exact S0.out) | (with_reducible exact c3c_drew S0.out) | (with_reducible exact c3c_set (c3c_set (c3c_set S2.out _ _) _ _) _ _)) (first | (go_at_call 54; have _t := HC0; refine (copiedSets_any sa sn sc v.sets w0.drew ?_).mono ?_; exact (HV.out.sets.same HC0.out.drew); rintro e9 w1 ⟨a1, c1, rfl, ho1, hc1⟩; replace hc1 := hc1.undrew; have S1 := Lib.hid (c3c_chg S0.out hc1); have HC1 := Lib.hid (HC0.out.trans hc1); have H1 := Lib.hid (hc1.keep H0.out (by simp)); have HO1 := Lib.hid (ho1.low HC0.out.size); clear HC0 ho1 hc1) | (go_at_call 54; refine (copiedSets_any oa on oc v.soa w1 ?_).mono ?_; exact (HV.out.soa.same HC1.out); rintro e9 w2 ⟨a2, c2, rfl, ho2, hc2⟩; have S2 := Lib.hid (c3c_chg S1.out hc2); have HC2 := Lib.hid (HC1.out.trans hc2); have H2 := Lib.hid (hc2.keep H1.out (by simp)); have HO2 := Lib.hid (ho2.low HC1.out.size); have HO3 := Lib.hid (HO1.out.same hc2); have g0 : w2.cell? ⟨b1 + 1, 0, none⟩ = some (.int .u8 0) := cell_of H2.out; have g1 : w2.cell? ⟨b1 + 1, 1, none⟩ = some (.slice none 0 0) := cell_of H2.out; have g2 : w2.cell? ⟨b1 + 1, 2, none⟩ = some (.slice none 0 0) := cell_of H2.out; have q0 : w2.frozen? ⟨b1 + 1, 0, none⟩ = false := free_of H2.out; have q1 : w2.frozen? ⟨b1 + 1, 1, none⟩ = false := free_of H2.out; have q2 : w2.frozen? ⟨b1 + 1, 2, none⟩ = false := free_of H2.out; clear ho2 hc2))
  have hns : NoSet [b1 + 1] w2 := by
    intro k hk c t f e
    simp at hk
    subst hk
    rw [H2.out] at e
    injection e with e
    injection e with _ e
    subst e
    exact ⟨by decide, by decide⟩
  have hst : Chg [b1 + 1] w2 (((w2.setCell ⟨b1 + 1, 0, none⟩ (.int .u8 code)).setCell ⟨b1 + 1, 1, none⟩ (.slice a1 sn c1)).setCell ⟨b1 + 1, 2, none⟩ (.slice a2 on c2)) :=
    (((Chg.refl _ w2).setCell (.inl (by simp)) _).setCell (.inl (by simp)) _).setCell (.inl (by simp)) _
  have hfin : OwnV w.heap.size (((w2.setCell ⟨b1 + 1, 0, none⟩ (.int .u8 code)).setCell ⟨b1 + 1, 1, none⟩ (.slice a1 sn c1)).setCell ⟨b1 + 1, 2, none⟩ (.slice a2 on c2)) code (.slice a1 sn c1) (.slice a2 on c2) v :=
    ⟨HV.out.code, HV.out.lt, HO3.out.chg hst hns, HO2.out.chg hst hns⟩
  have hch := HC2.out.trans_new hst (by intro x hx; simp at hx; right; omega)
  have h3 : (((w2.setCell ⟨b1 + 1, 0, none⟩ (.int .u8 code)).setCell ⟨b1 + 1, 1, none⟩ (.slice a1 sn c1)).setCell ⟨b1 + 1, 2, none⟩ (.slice a2 on c2)).heap[b1 + 1]? = some (.cells #[.int .u8 code, .slice a1 sn c1, .slice a2 on c2] 34 (0, 0)) := by
    rw [heap_set (heap_set (heap_set H2.out _) _) _]
    rfl
  refine post_abs ?_
  intro w3 hw3
  rw [← hw3] at hfin hch h3
  have m0 : w3.cell? ⟨b1 + 1, 0, none⟩ = some (.int .u8 code) := cell_of h3
  have m1 : w3.cell? ⟨b1 + 1, 1, none⟩ = some (.slice a1 sn c1) := cell_of h3
  have m2 : w3.cell? ⟨b1 + 1, 2, none⟩ = some (.slice a2 on c2) := cell_of h3
  have HFIN := Lib.hid hfin
  have HCH := Lib.hid hch
  clear hfin hch hst hns S0 S1 S2 H0 H1 HO1 HO2 HO3 hw3 h3 g0 g1 g2 q0 q1 q2
  go_wp2_with fail
  exact bodyPost_ret (v := .agg #[.int .u8 code, .slice a1 sn c1, .slice a2 on c2]) (by simp [results, Try.results32, go_sem, m0, m1, m2]) rfl ⟨_, _, _, _, rfl, HFIN.out, HCH.out⟩

end Go.Proofs.Ytgdnfempcjlipaa
