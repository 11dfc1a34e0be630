/- The walk of remove. -/
import Derived.Test.YtgdnfempcjlipaaCacF
import Derived.Deep.DeepMust
namespace Go.Proofs.Ytgdnfempcjlipaa
open Go.RowKit Go.Maps

theorem tdrop_any (tb : Nat) (F : List Nat) (L : List Ti.It) (p : Nat) (id : Int) (w : World) (h : Ti.TimersAt w tb F L p) (hi : Ti.InI id) (hp : p ≤ 1000000) :
    Calls Try.prog 64 #[.pointer (some ⟨tb, 0, none⟩), .int .i64 id] w fun e w' => (∃ b, e = .returned (.bool b)) ∧ Ti.TimersAt w' tb F (Ti.delL L id) p ∧ Chg (tb :: F) w w' := by
  by_cases hx : ∃ x ∈ L, x.id = id
  · obtain ⟨x, hx, rfl⟩ := hx
    refine (Ti.drop_some tb F L p x w h hx hp).mono ?_
    rintro e w' ⟨rfl, h1, h2⟩
    exact ⟨⟨_, rfl⟩, h1, h2⟩
  · have hx' : ∀ x ∈ L, x.id ≠ id := fun x hm e => hx ⟨x, hm, e⟩
    rw [Ti.delL_absent hx']
    refine (Ti.drop_none tb F L p id w h hi hx').mono ?_
    rintro e w' ⟨rfl, rfl⟩
    exact ⟨⟨_, rfl⟩, h, Chg.refl _ _⟩

def cutK (K : List (Nat × Nat)) (s : Nat) : List (Nat × Nat) := K.filter fun y => !decide (y.1 = s)
theorem kh_cut (K : List (Nat × Nat)) (s h : Nat) : kh (cutK K s) h = (kh K h).filter fun x => !decide (x = s) := by
  unfold kh cutK
  rw [List.filter_map, List.filter_filter, List.filter_filter]
  congr 1
  apply List.filter_congr
  intro y _
  simp [Bool.and_comm]
theorem kh_mem {K : List (Nat × Nat)} {s h : Nat} : s ∈ kh K h ↔ (s, h) ∈ K := by
  unfold kh
  rw [List.mem_map]
  constructor
  · rintro ⟨⟨a, b⟩, hy, rfl⟩
    obtain ⟨h1, h2⟩ := List.mem_filter.1 hy
    simp at h2
    subst h2
    exact h1
  · intro hh
    exact ⟨(s, h), List.mem_filter.2 ⟨hh, by simp⟩, rfl⟩
theorem kh_other {K : List (Nat × Nat)} {s h h' : Nat} (hn : (K.map (·.1)).Nodup) (hK : (s, h) ∈ K) (hne : h' ≠ h) : kh (cutK K s) h' = kh K h' := by
  rw [kh_cut]
  apply List.filter_eq_self.2
  intro x hx
  simp
  rintro rfl
  have := inj_of_nodup hn (kh_mem.1 hx) hK rfl
  injection this with _ e
  exact hne e
theorem hashQ_lt (k0 k1 : Nat) (q : Qn) (h0 : k0 < 18446744073709551616) (h1 : k1 < 18446744073709551616) : hashQ k0 k1 q < 18446744073709551616 := by
  unfold hashQ
  refine Si.sipN_lt _ _ _ h0 h1 ?_
  intro x hx
  rcases List.mem_append.1 hx with h | h
  · exact Si.bytesN_lt _ x h
  · exact Si.bytesN_lt _ x h

section
variable {w w' : World} {f : Nat → Option Value} {K : List (Nat × Nat)} {h s g cap : Nat}
theorem rows_del (hr : RowsH w f K) (hn : (K.map (·.1)).Nodup) (hK : (s, h) ∈ K) (hf : f h = some (.slice (some ⟨g, 0, none⟩) (kh K h).length cap)) (hc : Chg [g] w w') (h0 : kh (cutK K s) h = []) : RowsH w' (fun x => if x = h then none else f x) (cutK K s) := by
  refine ⟨fun x hx => ?_, fun x v hx => ?_, fun x x' v v' g' h1 h2 => ?_⟩
  · by_cases e : x = h
    · rw [e]; exact h0
    · rw [if_neg e] at hx
      rw [kh_other hn hK e]
      exact hr.no x hx
  · by_cases e : x = h
    · rw [if_pos e] at hx; cases hx
    · rw [if_neg e] at hx
      rw [kh_other hn hK e]
      refine ⟨(hr.yes x v hx).1, (hr.yes x v hx).2.chg hc fun g' hg' hs => ?_⟩
      simp at hs
      subst hs
      exact e (hr.apart x h v _ g' hx hf hg' rfl)
  · by_cases e : x = h
    · rw [if_pos e] at h1; cases h1
    · by_cases e' : x' = h
      · rw [if_pos e'] at h2; cases h2
      · rw [if_neg e] at h1
        rw [if_neg e'] at h2
        exact hr.apart x x' v v' g' h1 h2
theorem rows_cut (hr : RowsH w f K) (hn : (K.map (·.1)).Nodup) (hK : (s, h) ∈ K) (hf : f h = some (.slice (some ⟨g, 0, none⟩) (kh K h).length cap)) (hc : Chg [g] w w') (h0 : kh (cutK K s) h ≠ [])
    (ho : R.OwnR 3 1 intV 0 w' (.slice (some ⟨g, 0, none⟩) (kh (cutK K s) h).length cap) (kh (cutK K s) h)) : RowsH w' (fun x => if x = h then some (.slice (some ⟨g, 0, none⟩) (kh (cutK K s) h).length cap) else f x) (cutK K s) := by
  refine ⟨fun x hx => ?_, fun x v hx => ?_, fun x x' v v' g' h1 h2 h3 h4 => ?_⟩
  · by_cases e : x = h
    · rw [if_pos e] at hx; cases hx
    · rw [if_neg e] at hx
      rw [kh_other hn hK e]
      exact hr.no x hx
  · by_cases e : x = h
    · rw [if_pos e] at hx
      cases hx
      rw [e]
      exact ⟨h0, ho⟩
    · rw [if_neg e] at hx
      rw [kh_other hn hK e]
      refine ⟨(hr.yes x v hx).1, (hr.yes x v hx).2.chg hc fun g' hg' hs => ?_⟩
      simp at hs
      subst hs
      exact e (hr.apart x h v _ g' hx hf hg' rfl)
  · by_cases e : x = h
    · by_cases e' : x' = h
      · rw [e, e']
      · rw [if_pos e] at h1
        rw [if_neg e'] at h2
        cases h1
        exact absurd (hr.apart x' h v' _ g' h2 hf h4 h3) e'
    · by_cases e' : x' = h
      · rw [if_neg e] at h1
        rw [if_pos e'] at h2
        cases h2
        exact absurd (hr.apart x h v _ g' h1 hf h3 h4) e
      · rw [if_neg e] at h1
        rw [if_neg e'] at h2
        exact hr.apart x x' v v' g' h1 h2 h3 h4
end

theorem c5_chg {w w' : World} {p q r s t : Addr} {a b c d e : Value} (h : w.cell? p = some a ∧ w.cell? q = some b ∧ w.cell? r = some c ∧ w.cell? s = some d ∧ w.cell? t = some e) (hc : Chg [] w w') : w'.cell? p = some a ∧ w'.cell? q = some b ∧ w'.cell? r = some c ∧ w'.cell? s = some d ∧ w'.cell? t = some e :=
  ⟨hc.cell h.1 (by simp), hc.cell h.2.1 (by simp), hc.cell h.2.2.1 (by simp), hc.cell h.2.2.2.1 (by simp), hc.cell h.2.2.2.2 (by simp)⟩
theorem pb_not {w : World} {cb n k0 k1 : Nat} {now : Int} {row : List Nat} {L : List Sl} {K : List (Nat × Nat)} {T : List Ti.It} {p m eb mb lb tb cp : Nat} {tl : List Value} {FT : List Nat} {f : Nat → Option Value} {es : List EnV} (h : CSc w cb n k0 k1 now row L K T p m eb mb lb tb cp tl FT f es) {pb : Nat} (hp : pb = w.heap.size) : pb ∉ tb :: FT := by
  intro hx
  rcases List.mem_cons.1 hx with e | e
  · have := h.tim.lt; omega
  · have := h.tim.low pb e; omega
section
variable (F : List Nat) (cb n k0 k1 : Nat) (now : Int) (row : List Nat) (L : List Sl) (K : List (Nat × Nat)) (T : List Ti.It) (p m : Nat) (w : World)
set_option maxRecDepth 100000 in
set_option maxHeartbeats 8000000 in
theorem remove_any (x : Sl) (h : CS F w cb n k0 k1 now row L K T p m) (hx : x ∈ L) (hq1 : x.e.q.nm.size ≤ 1000) (hq2 : x.e.q.ty < 65536) (hq3 : x.e.q.cl < 65536) (hK : (x.s, hashQ k0 k1 x.e.q) ∈ K) (hKn : (K.map (·.1)).Nodup) (hKl : K.length ≤ 1000) (hp : p ≤ 1000000) (hm : m ≤ 1000000) :
    Calls Try.prog 48 #[.pointer (some ⟨cb, 0, none⟩), .int .i64 (x.s : Nat)] w fun e w' => e = .returned (.tuple #[]) ∧ Aft F w w' fun F' => CS F' w' cb n k0 k1 now (Lr.dropL row x.s) (cutS L x.s) (cutK K x.s) (Ti.delL T x.s) p m := by
  obtain ⟨eb, mb, lb, tb, cp, tl, FT, f, es, hC, hF⟩ := h
  obtain ⟨s, e⟩ := x
  simp only at hq1 hq2 hq3 hK ⊢
  obtain ⟨r, hr⟩ : ∃ r, r = hashQ k0 k1 e.q := ⟨_, rfl⟩
  rw [← hr] at hK
  have hrl : r < 18446744073709551616 := by rw [hr]; exact hashQ_lt _ _ _ hC.l0 hC.l1
  have HR := Lib.hid hr
  have c1 : w.cell? ⟨cb, 1, none⟩ = some (.int .u64 (k0 : Nat)) := cell_of hC.head
  have c2 : w.cell? ⟨cb, 2, none⟩ = some (.int .u64 (k1 : Nat)) := cell_of hC.head
  have c4 : w.cell? ⟨cb, 4, none⟩ = some (.slice (some ⟨eb, 0, none⟩) n cp) := cell_of hC.head
  obtain ⟨hse, hen⟩ := hC.eok _ hx
  simp only at hse hen
  have hen := hen hse
  have hsn : s < n := by rw [← hC.elen]; exact hse
  have d0 : w.cell? ⟨eb, s * 7, none⟩ = some (.string e.q.nm) := by rw [cell_of hC.ents]; exact eRow_get hse (j := 0) (by rw [← hen.q]; rfl)
  have d1 : w.cell? ⟨eb, s * 7 + 1, none⟩ = some (.int .u16 (e.q.ty : Nat)) := by rw [cell_of hC.ents]; exact eRow_get hse (j := 1) (by rw [← hen.q]; rfl)
  have d2 : w.cell? ⟨eb, s * 7 + 2, none⟩ = some (.int .u16 (e.q.cl : Nat)) := by rw [cell_of hC.ents]; exact eRow_get hse (j := 2) (by rw [← hen.q]; rfl)
  have hn256 : n ≤ 256 := hC.lru.1
  have HC := Lib.hid hC
  have HF := Lib.hid hF
  have HK := Lib.hid hK
  have HKN := Lib.hid hKn
  have HE := Lib.hid hse
  obtain ⟨qe, hqe⟩ : ∃ qe, qe = e.q := ⟨_, rfl⟩
  rw [← hqe] at d0 d1 d2 hq1 hq2 hq3 HR
  obtain ⟨nm, ty, cl⟩ := qe
  simp only at d0 d1 d2 hq1 hq2 hq3
  have l0 := hC.l0
  have l1 := hC.l1
  clear hqe hC hF hK hKn hen hr hx hse
  go_enter Try.func48, Try.ntmps48
  go_wp2_with fail
  obtain ⟨pb, hpb⟩ : ∃ pb, pb = w.heap.size := ⟨_, rfl⟩
  rw [← hpb]
  refine wp_abs ?_
  intro w0 hw0
  have hc0 : Chg [] w w0 := by rw [hw0]; exact (Chg.refl _ _).alloc _
  have hp0 : w0.heap[pb]? = some (.cells #[.int .i64 (s : Nat)] 3 (0, 0)) := by rw [hw0, hpb]; exact heap_new _ _
  have S0 : Hid (w0.cell? ⟨cb, 4, none⟩ = some (.slice (some ⟨eb, 0, none⟩) n cp) ∧ w0.cell? ⟨pb, 0, none⟩ = some (.int .i64 (s : Nat)) ∧ w0.cell? ⟨eb, s * 7, none⟩ = some (.string nm) ∧ w0.cell? ⟨eb, s * 7 + 1, none⟩ = some (.int .u16 (ty : Nat)) ∧ w0.cell? ⟨eb, s * 7 + 2, none⟩ = some (.int .u16 (cl : Nat))) :=
    Lib.hid ⟨hc0.cell c4 (by simp), cell_of hp0, hc0.cell d0 (by simp), hc0.cell d1 (by simp), hc0.cell d2 (by simp)⟩
  have HH := Lib.hid (And.intro (hc0.cell c1 (by simp)) (hc0.cell c2 (by simp)))
  have HP0 := Lib.hid hp0
  have HC0 := Lib.hid hc0
  have HPB := Lib.hid hpb
  clear hpb hw0 hc0 hp0 c1 c2 c4 d0 d1 d2
  go_region_held3 (fun W => W.cell? ⟨cb, 4, none⟩ = some (.slice (some ⟨eb, 0, none⟩) n cp) ∧ W.cell? ⟨pb, 0, none⟩ = some (.int .i64 (s : Nat)) ∧ W.cell? ⟨eb, s * 7, none⟩ = some (.string nm) ∧ W.cell? ⟨eb, s * 7 + 1, none⟩ = some (.int .u16 (ty : Nat)) ∧ W.cell? ⟨eb, s * 7 + 2, none⟩ = some (.int .u16 (cl : Nat))) (first | (with_reducible exact S1.out) | exact S0.out) (first | (go_at_call 31; refine (hash_any cb k0 k1 ⟨nm, ty, cl⟩ r _ ?_ ?_ l0 l1 hq1 hq2 hq3 HR).mono ?_; exact HH.out.1; exact HH.out.2; rintro e9 w1 ⟨rfl, hc1⟩; replace hc1 := hc1.undrew; have S1 := Lib.hid (c5_chg S0.out hc1)))
  have hC1 := HC.out.other (HC0.out.trans hc1) (by simp) (noSet_nil w)
  have hp1 := hc1.keep HP0.out (by simp)
  obtain ⟨rv, hrv⟩ : ∃ rv, f r = some rv := by
    cases hfr : f r with
    | some v => exact ⟨v, rfl⟩
    | none =>
      have := hC1.rows.no r hfr
      have h2 := kh_mem.2 HK.out
      rw [this] at h2
      cases h2
  obtain ⟨hne, hown⟩ := hC1.rows.yes r rv hrv
  have hlk := hC1.map.look hrl
  have hrow : rowAt f r = rv := by unfold rowAt; rw [hrv]; rfl
  rw [hrow] at hlk
  obtain ⟨kl, hkl⟩ : ∃ kl, kl = kh K r := ⟨_, rfl⟩
  have hkll : kl.length ≤ 1000 := by
    rw [hkl]
    unfold kh
    rw [List.length_map]
    exact Nat.le_trans (List.length_filter_le _ _) hKl
  have hgc : ∃ g cap, rv = .slice (some ⟨g, 0, none⟩) kl.length cap := by
    rw [hkl]
    rcases hown.2 with ⟨hv, h0⟩ | ⟨g, cap, cur, hv, _⟩
    · exact absurd (List.length_eq_zero_iff.1 h0) hne
    · exact ⟨g, cap, hv⟩
  obtain ⟨g, cap, rfl⟩ := hgc
  rw [← hkl] at hown
  have hgpb : pb ≠ g := by
    have h1 := (hC1.rows.ty (y := g) ⟨r, _, hrv, rfl⟩).1
    have h2 : g < w.heap.size := (HC.out.rows.ty (y := g) ⟨r, _, hrv, rfl⟩).2
    rw [HPB.out]
    omega
  have c5 : w1.cell? ⟨cb, 5, none⟩ = some (.map (some mb)) := cell_of hC1.head
  obtain ⟨kn, hkn⟩ : ∃ kn, kn = kl.length := ⟨_, rfl⟩
  have HC1 := Lib.hid hC1
  have HP1 := Lib.hid hp1
  have HKL := Lib.hid hkl
  have HRV := Lib.hid hrv
  have HCH1 := Lib.hid (HC0.out.trans hc1)
  have hdel := delfunc_any g cap s pb kl w1 hown hkll (cell_of hp1) hgpb
  rw [← hkn] at hdel hlk
  have HDEL := Lib.hid hdel
  have HKN2 := Lib.hid hkn
  clear hkn hC1 hp1 hkl hrv hc1 hdel hne hown hrow S0 S1 HH HP0 HC0 hgpb
  go_wp2_with fail
  refine HDEL.out.mono ?_
  rintro e9 w2 ⟨rfl, ho2, hc2⟩
  obtain ⟨k2, hk2⟩ : ∃ k2, k2 = kl.filter fun x => !decide (x = s) := ⟨_, rfl⟩
  rw [← hk2] at ho2 ⊢
  have hk3 : kh (cutK K s) r = k2 := by rw [kh_cut, ← HKL.out, hk2]
  obtain ⟨ln, hln⟩ : ∃ ln, ln = k2.length := ⟨_, rfl⟩
  rw [← hln]
  have hgm : g ≠ mb := by
    have h1 := (HC1.out.rows.ty (y := g) ⟨r, _, HRV.out, rfl⟩).1
    rintro rfl
    rw [HC1.out.tmb] at h1
    cases h1
  have hm2 : MapH w2 mb m f := HC1.out.map.chg hc2 (by simp; exact fun e => hgm e.symm)
  have hpb2 : w2.cell? ⟨pb, 0, none⟩ = some (.int .i64 (s : Nat)) := hc2.cell (cell_of HP1.out) (by
    have h2 : g < w.heap.size := (HC.out.rows.ty (y := g) ⟨r, _, HRV.out, rfl⟩).2
    simp; rw [HPB.out]; omega)
  have c5b : w2.cell? ⟨cb, 5, none⟩ = some (.map (some mb)) := hc2.cell c5 (by
    have h1 := (HC1.out.rows.ty (y := g) ⟨r, _, HRV.out, rfl⟩).1
    simp
    rintro rfl
    rw [HC1.out.tcb] at h1
    exact absurd h1 (by decide))
  have HM2 := Lib.hid hm2
  have HO2 := Lib.hid ho2
  have HCH2 := Lib.hid hc2
  have HK3 := Lib.hid hk3
  have HPB2 := Lib.hid hpb2
  have hlen2 : ln ≤ 1000 := by
    rw [hln, hk2]; exact Nat.le_trans (List.length_filter_le _ _) hkll
  have HLN := Lib.hid hln
  clear hk2 hc2 ho2 hm2 hk3 hpb2 hln hgm c5 hkll
  have hrows := HRV.out
  rw [HKL.out] at hrows
  have HROWS := Lib.hid hrows
  clear hrows
  by_cases h0 : ln = 0
  · subst h0
    go_wp2_with (first | (at_delete; refine wpList_delH rfl _ _ rfl HM2.out r hrl rfl rfl ?_; intro w3 hm3 hc3) | go_in)
    have hk30 : kh (cutK K s) r = [] := by rw [HK3.out]; exact List.length_eq_zero_iff.1 HLN.out.symm
    have hr3 := (rows_del HC1.out.rows HKN.out HK.out HROWS.out HCH2.out hk30).chg hc3 (fun y hy hs => by
      simp at hs
      subst hs
      have h1 := ((rows_del HC1.out.rows HKN.out HK.out HROWS.out HCH2.out hk30).ty hy).1
      obtain ⟨es', c', hb'⟩ := HM2.out.isMap
      rw [ty_map hb'] at h1
      cases h1)
    have hch3 : Chg [mb, g] w1 w3 := (HCH2.out.mono (by simp)).trans (hc3.mono (by simp))
    have hC3 := HC1.out.maps hch3 (fun y hy => by
      simp at hy
      rcases hy with e | e
      · exact .inl e
      · exact .inr ⟨r, _, HRV.out, by rw [e]; rfl⟩) hm3 hr3
    have HRB : Hid (∀ y, RowBlk (fun x => if x = r then none else f x) y → RowBlk f y) := Lib.hid (fun y hy => by
      obtain ⟨h', v', h1, h2⟩ := hy
      dsimp only at h1
      by_cases e : h' = r
      · rw [if_pos e] at h1; cases h1
      · rw [if_neg e] at h1
        exact ⟨h', v', h1, h2⟩)
    have hpb3 : w3.cell? ⟨pb, 0, none⟩ = some (.int .i64 (s : Nat)) := hc3.cell HPB2.out (by
      simp; rintro rfl
      have := HC.out.map.lt
      have := HPB.out
      omega)
    have c6 : w3.cell? ⟨cb, 6, none⟩ = some (.pointer (some ⟨lb, 0, none⟩)) := cell_of hC3.head
    have S6 := Lib.hid (And.intro c6 hpb3)
    have HC3 := Lib.hid hC3
    have HCH3 := Lib.hid hch3
    clear hC3 hch3 hr3 hc3 hm3 hk30 HM2 HO2 HCH2 HK3 c5b

    go_wp2_with fail
    go_region_held3 (fun W => W.cell? ⟨cb, 6, none⟩ = some (.pointer (some ⟨lb, 0, none⟩)) ∧ W.cell? ⟨pb, 0, none⟩ = some (.int .i64 (s : Nat))) (first | (with_reducible exact S7.out) | exact S6.out) (first | (go_at_call 67; refine (Lr.drop_in lb n s _ row _ ?_ hsn rfl).mono ?_; exact HC3.out.lru.chg (Chg.refl [] w3).drew (by simp); rintro e9 w4 ⟨rfl, hl4, hc4⟩; replace hc4 := hc4.undrew; have hC4 := HC3.out.order hc4 hl4; have S7 := Lib.hid (And.intro (show w4.cell? ⟨cb, 6, none⟩ = some (.pointer (some ⟨lb, 0, none⟩)) from cell_of hC4.head) (hc4.cell S6.out.2 (by simp; have := HC.out.lru.lt; have := HPB.out; omega)))))
    have HC4 := Lib.hid hC4
    have HCH4 := Lib.hid hc4
    have S8 := Lib.hid (And.intro (show w4.cell? ⟨cb, 7, none⟩ = some (.pointer (some ⟨tb, 0, none⟩)) from cell_of hC4.head) S7.out.2)
    have hsI : Ti.InI ((s : Nat) : Int) := ⟨by omega, by omega⟩
    have HSI := Lib.hid hsI
    clear hC4 hc4 hl4 S6 S7 hsI c6 hpb3
    go_wp2_with fail
    go_region_held3 (fun W => W.cell? ⟨cb, 7, none⟩ = some (.pointer (some ⟨tb, 0, none⟩)) ∧ W.cell? ⟨pb, 0, none⟩ = some (.int .i64 (s : Nat))) (first | (with_reducible exact S9.out) | exact S8.out) (first | (go_at_call 64; refine (tdrop_any tb FT T p (s : Nat) _ ?_ HSI.out hp).mono ?_; exact HC4.out.tim.drewN 1; rintro e9 w5 ⟨⟨bb, rfl⟩, ht5, hc5⟩; replace hc5 := hc5.undrew; obtain ⟨FT5, ht6, hsub, hty⟩ := tim_tight ht5; have hC5 := HC4.out.timers hc5 ht6 (fun y hy => .inl (hsub y hy)) hty; have S9 := Lib.hid (And.intro (show w5.cell? ⟨cb, 7, none⟩ = some (.pointer (some ⟨tb, 0, none⟩)) from cell_of hC5.head) (hc5.cell S8.out.2 (pb_not HC.out HPB.out)))))
    have HC5 := Lib.hid hC5
    have HCH5 := Lib.hid hc5
    have HSUB := Lib.hid hsub
    have hhe : s < es.length := HE.out
    have c4 : w5.cell? ⟨cb, 4, none⟩ = some (.slice (some ⟨eb, 0, none⟩) n cp) := cell_of hC5.head
    have k0p := S9.out.2
    have hfr : ∀ i, w5.frozen? ⟨eb, i, none⟩ = false := fun i => free_of hC5.ents
    obtain ⟨en, hen⟩ : ∃ en, en = es[s] := ⟨_, rfl⟩
    have g0 : w5.cell? ⟨eb, s * 7, none⟩ = some (.string en.q.nm) := by rw [cell_of hC5.ents]; exact eRow_get hhe (j := 0) (by rw [← hen]; rfl)
    have g1 : w5.cell? ⟨eb, s * 7 + 1, none⟩ = some (.int .u16 (en.q.ty : Nat)) := by rw [cell_of hC5.ents]; exact eRow_get hhe (j := 1) (by rw [← hen]; rfl)
    have g2 : w5.cell? ⟨eb, s * 7 + 2, none⟩ = some (.int .u16 (en.q.cl : Nat)) := by rw [cell_of hC5.ents]; exact eRow_get hhe (j := 2) (by rw [← hen]; rfl)
    have g3 : w5.cell? ⟨eb, s * 7 + 3, none⟩ = some (.int .u8 en.code) := by rw [cell_of hC5.ents]; exact eRow_get hhe (j := 3) (by rw [← hen]; rfl)
    have g4 : w5.cell? ⟨eb, s * 7 + 4, none⟩ = some en.sv := by rw [cell_of hC5.ents]; exact eRow_get hhe (j := 4) (by rw [← hen]; rfl)
    have g5 : w5.cell? ⟨eb, s * 7 + 5, none⟩ = some en.ov := by rw [cell_of hC5.ents]; exact eRow_get hhe (j := 5) (by rw [← hen]; rfl)
    have g6 : w5.cell? ⟨eb, s * 7 + 6, none⟩ = some (.int .i64 en.til) := by rw [cell_of hC5.ents]; exact eRow_get hhe (j := 6) (by rw [← hen]; rfl)
    have f0 := hfr (s * 7)
    have f1 := hfr (s * 7 + 1)
    have f2 := hfr (s * 7 + 2)
    have f3 := hfr (s * 7 + 3)
    have f4 := hfr (s * 7 + 4)
    have f5 := hfr (s * 7 + 5)
    have f6 := hfr (s * 7 + 6)
    have c43 : w5.drew.cell? ⟨cb, 4, none⟩ = some (.slice (some ⟨eb, 0, none⟩) n cp) := c4
    clear hC5 hc5 ht5 ht6 hsub hty S8 S9 hen hfr
    go_wp2_with fail
    go_region
    have hC6 := (HC5.out.entry (e := e0) (L' := cutS L s) hhe ⟨rfl, rfl⟩ (fun y hy => .inl ⟨(List.mem_filter.1 hy).1, by simpa using (List.mem_filter.1 hy).2⟩)).other ((Chg.refl [] _).drew) (by simp) (noSet_nil _)
    have hin : ∀ y, Part cb eb mb lb tb FT f y → y ∈ F := fun y hy => (HF.out y).2 hy
    have hchF : Chg F w (wset7 w5 eb (s * 7) e0).drew := ((((HCH1.out.mono (by simp)).trans (HCH3.out.mono (fun y hy => by
      simp at hy
      rcases hy with e | e
      · rw [e]; exact hin _ (.inr (.inr (.inl rfl)))
      · exact hin _ (.inr (.inr (.inr (.inr (.inr (.inr ⟨r, _, HRV.out, by rw [e]; rfl⟩))))))))).trans (HCH4.out.mono (fun y hy => by
      simp at hy
      rw [hy]; exact hin _ (.inr (.inr (.inr (.inl rfl))))))).trans (HCH5.out.mono (fun y hy => by
      rcases List.mem_cons.1 hy with e | e
      · rw [e]; exact hin _ (.inr (.inr (.inr (.inr (.inl rfl)))))
      · exact hin _ (.inr (.inr (.inr (.inr (.inr (.inl e))))))))).trans ((wset7_chg w5 eb (s * 7) e0).drew.mono (fun y hy => by
      simp at hy
      rw [hy]; exact hin _ (.inr (.inl rfl))))
    have hfin := CS.close (F := F) (N := []) hC6 (fun y hy => .inl (by
      rcases hy with e | e | e | e | e | e | e
      · exact hin y (.inl e)
      · exact hin y (.inr (.inl e))
      · exact hin y (.inr (.inr (.inl e)))
      · exact hin y (.inr (.inr (.inr (.inl e))))
      · exact hin y (.inr (.inr (.inr (.inr (.inl e)))))
      · exact hin y (.inr (.inr (.inr (.inr (.inr (.inl (HSUB.out y e)))))))
      · exact hin y (.inr (.inr (.inr (.inr (.inr (.inr (HRB.out y e)))))))) ) (by simp) hchF (fun y hy => .inl hy)
    have HFIN := Lib.hid hfin
    clear hfin hchF hC6 hin
    go_end0
    exact ⟨rfl, HFIN.out⟩
  · have t1 : ((ln : Int) == 0) = false := by simp; omega
    have hms : (if (f r).isSome then m else m + 1) = m := by rw [HRV.out]; rfl
    go_wp2_with (first | (at_mapUpdate; refine wpList_putH rfl _ _ _ rfl HM2.out r hrl (.slice (some ⟨g, 0, none⟩) ln cap) (by omega) rfl rfl rfl ?_; intro w3 hm3 hc3; rw [hms] at hm3) | go_in)
    have hk30 : kh (cutK K s) r ≠ [] := by
      rw [HK3.out]
      intro e
      have h2 := HLN.out
      rw [e] at h2
      exact h0 h2
    have hk3l : (kh (cutK K s) r).length = ln := by rw [HK3.out]; exact HLN.out.symm
    have hrc := rows_cut HC1.out.rows HKN.out HK.out HROWS.out HCH2.out hk30 (by rw [HK3.out]; exact HO2.out)
    rw [hk3l] at hrc
    have hr3 := hrc.chg hc3 (fun y hy hs => by
      simp at hs
      subst hs
      have h1 := (hrc.ty hy).1
      obtain ⟨es', c', hb'⟩ := HM2.out.isMap
      rw [ty_map hb'] at h1
      cases h1)
    have hch3 : Chg [mb, g] w1 w3 := (HCH2.out.mono (by simp)).trans (hc3.mono (by simp))
    have hC3 := HC1.out.maps hch3 (fun y hy => by
      simp at hy
      rcases hy with e | e
      · exact .inl e
      · exact .inr ⟨r, _, HRV.out, by rw [e]; rfl⟩) hm3 hr3
    have HRB : Hid (∀ y, RowBlk (fun x => if x = r then some (.slice (some ⟨g, 0, none⟩) ln cap) else f x) y → RowBlk f y) := Lib.hid (fun y hy => by
      obtain ⟨h', v', h1, h2⟩ := hy
      dsimp only at h1
      by_cases e : h' = r
      · rw [if_pos e] at h1
        cases h1
        exact ⟨r, _, HRV.out, h2⟩
      · rw [if_neg e] at h1
        exact ⟨h', v', h1, h2⟩)
    have hpb3 : w3.cell? ⟨pb, 0, none⟩ = some (.int .i64 (s : Nat)) := hc3.cell HPB2.out (by
      simp; rintro rfl
      have := HC.out.map.lt
      have := HPB.out
      omega)
    have c6 : w3.cell? ⟨cb, 6, none⟩ = some (.pointer (some ⟨lb, 0, none⟩)) := cell_of hC3.head
    have S6 := Lib.hid (And.intro c6 hpb3)
    have HC3 := Lib.hid hC3
    have HCH3 := Lib.hid hch3
    clear hC3 hch3 hr3 hc3 hm3 hk30 hk3l hrc hms t1 HM2 HO2 HCH2 HK3 c5b

    go_wp2_with fail
    go_region_held3 (fun W => W.cell? ⟨cb, 6, none⟩ = some (.pointer (some ⟨lb, 0, none⟩)) ∧ W.cell? ⟨pb, 0, none⟩ = some (.int .i64 (s : Nat))) (first | (with_reducible exact S7.out) | exact S6.out) (first | (go_at_call 67; refine (Lr.drop_in lb n s _ row _ ?_ hsn rfl).mono ?_; exact HC3.out.lru.chg (Chg.refl [] w3).drew (by simp); rintro e9 w4 ⟨rfl, hl4, hc4⟩; replace hc4 := hc4.undrew; have hC4 := HC3.out.order hc4 hl4; have S7 := Lib.hid (And.intro (show w4.cell? ⟨cb, 6, none⟩ = some (.pointer (some ⟨lb, 0, none⟩)) from cell_of hC4.head) (hc4.cell S6.out.2 (by simp; have := HC.out.lru.lt; have := HPB.out; omega)))))
    have HC4 := Lib.hid hC4
    have HCH4 := Lib.hid hc4
    have S8 := Lib.hid (And.intro (show w4.cell? ⟨cb, 7, none⟩ = some (.pointer (some ⟨tb, 0, none⟩)) from cell_of hC4.head) S7.out.2)
    have hsI : Ti.InI ((s : Nat) : Int) := ⟨by omega, by omega⟩
    have HSI := Lib.hid hsI
    clear hC4 hc4 hl4 S6 S7 hsI c6 hpb3
    go_wp2_with fail
    go_region_held3 (fun W => W.cell? ⟨cb, 7, none⟩ = some (.pointer (some ⟨tb, 0, none⟩)) ∧ W.cell? ⟨pb, 0, none⟩ = some (.int .i64 (s : Nat))) (first | (with_reducible exact S9.out) | exact S8.out) (first | (go_at_call 64; refine (tdrop_any tb FT T p (s : Nat) _ ?_ HSI.out hp).mono ?_; exact HC4.out.tim.drewN 1; rintro e9 w5 ⟨⟨bb, rfl⟩, ht5, hc5⟩; replace hc5 := hc5.undrew; obtain ⟨FT5, ht6, hsub, hty⟩ := tim_tight ht5; have hC5 := HC4.out.timers hc5 ht6 (fun y hy => .inl (hsub y hy)) hty; have S9 := Lib.hid (And.intro (show w5.cell? ⟨cb, 7, none⟩ = some (.pointer (some ⟨tb, 0, none⟩)) from cell_of hC5.head) (hc5.cell S8.out.2 (pb_not HC.out HPB.out)))))
    have HC5 := Lib.hid hC5
    have HCH5 := Lib.hid hc5
    have HSUB := Lib.hid hsub
    have hhe : s < es.length := HE.out
    have c4 : w5.cell? ⟨cb, 4, none⟩ = some (.slice (some ⟨eb, 0, none⟩) n cp) := cell_of hC5.head
    have k0p := S9.out.2
    have hfr : ∀ i, w5.frozen? ⟨eb, i, none⟩ = false := fun i => free_of hC5.ents
    obtain ⟨en, hen⟩ : ∃ en, en = es[s] := ⟨_, rfl⟩
    have g0 : w5.cell? ⟨eb, s * 7, none⟩ = some (.string en.q.nm) := by rw [cell_of hC5.ents]; exact eRow_get hhe (j := 0) (by rw [← hen]; rfl)
    have g1 : w5.cell? ⟨eb, s * 7 + 1, none⟩ = some (.int .u16 (en.q.ty : Nat)) := by rw [cell_of hC5.ents]; exact eRow_get hhe (j := 1) (by rw [← hen]; rfl)
    have g2 : w5.cell? ⟨eb, s * 7 + 2, none⟩ = some (.int .u16 (en.q.cl : Nat)) := by rw [cell_of hC5.ents]; exact eRow_get hhe (j := 2) (by rw [← hen]; rfl)
    have g3 : w5.cell? ⟨eb, s * 7 + 3, none⟩ = some (.int .u8 en.code) := by rw [cell_of hC5.ents]; exact eRow_get hhe (j := 3) (by rw [← hen]; rfl)
    have g4 : w5.cell? ⟨eb, s * 7 + 4, none⟩ = some en.sv := by rw [cell_of hC5.ents]; exact eRow_get hhe (j := 4) (by rw [← hen]; rfl)
    have g5 : w5.cell? ⟨eb, s * 7 + 5, none⟩ = some en.ov := by rw [cell_of hC5.ents]; exact eRow_get hhe (j := 5) (by rw [← hen]; rfl)
    have g6 : w5.cell? ⟨eb, s * 7 + 6, none⟩ = some (.int .i64 en.til) := by rw [cell_of hC5.ents]; exact eRow_get hhe (j := 6) (by rw [← hen]; rfl)
    have f0 := hfr (s * 7)
    have f1 := hfr (s * 7 + 1)
    have f2 := hfr (s * 7 + 2)
    have f3 := hfr (s * 7 + 3)
    have f4 := hfr (s * 7 + 4)
    have f5 := hfr (s * 7 + 5)
    have f6 := hfr (s * 7 + 6)
    have c43 : w5.drew.cell? ⟨cb, 4, none⟩ = some (.slice (some ⟨eb, 0, none⟩) n cp) := c4
    clear hC5 hc5 ht5 ht6 hsub hty S8 S9 hen hfr
    go_wp2_with fail
    go_region
    have hC6 := (HC5.out.entry (e := e0) (L' := cutS L s) hhe ⟨rfl, rfl⟩ (fun y hy => .inl ⟨(List.mem_filter.1 hy).1, by simpa using (List.mem_filter.1 hy).2⟩)).other ((Chg.refl [] _).drew) (by simp) (noSet_nil _)
    have hin : ∀ y, Part cb eb mb lb tb FT f y → y ∈ F := fun y hy => (HF.out y).2 hy
    have hchF : Chg F w (wset7 w5 eb (s * 7) e0).drew := ((((HCH1.out.mono (by simp)).trans (HCH3.out.mono (fun y hy => by
      simp at hy
      rcases hy with e | e
      · rw [e]; exact hin _ (.inr (.inr (.inl rfl)))
      · exact hin _ (.inr (.inr (.inr (.inr (.inr (.inr ⟨r, _, HRV.out, by rw [e]; rfl⟩))))))))).trans (HCH4.out.mono (fun y hy => by
      simp at hy
      rw [hy]; exact hin _ (.inr (.inr (.inr (.inl rfl))))))).trans (HCH5.out.mono (fun y hy => by
      rcases List.mem_cons.1 hy with e | e
      · rw [e]; exact hin _ (.inr (.inr (.inr (.inr (.inl rfl)))))
      · exact hin _ (.inr (.inr (.inr (.inr (.inr (.inl e))))))))).trans ((wset7_chg w5 eb (s * 7) e0).drew.mono (fun y hy => by
      simp at hy
      rw [hy]; exact hin _ (.inr (.inl rfl))))
    have hfin := CS.close (F := F) (N := []) hC6 (fun y hy => .inl (by
      rcases hy with e | e | e | e | e | e | e
      · exact hin y (.inl e)
      · exact hin y (.inr (.inl e))
      · exact hin y (.inr (.inr (.inl e)))
      · exact hin y (.inr (.inr (.inr (.inl e))))
      · exact hin y (.inr (.inr (.inr (.inr (.inl e)))))
      · exact hin y (.inr (.inr (.inr (.inr (.inr (.inl (HSUB.out y e)))))))
      · exact hin y (.inr (.inr (.inr (.inr (.inr (.inr (HRB.out y e)))))))) ) (by simp) hchF (fun y hy => .inl hy)
    have HFIN := Lib.hid hfin
    clear hfin hchF hC6 hin
    go_end0
    exact ⟨rfl, HFIN.out⟩
end

end Go.Proofs.Ytgdnfempcjlipaa
