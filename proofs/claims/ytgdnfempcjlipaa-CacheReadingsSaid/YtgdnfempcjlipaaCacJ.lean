/- The walk of advance. -/
import Derived.Test.YtgdnfempcjlipaaCacI
namespace Go.Proofs.Ytgdnfempcjlipaa
open Go.RowKit Go.Maps

theorem CS.within {F : List Nat} {w : World} {cb n k0 k1 : Nat} {now : Int} {row : List Nat} {L : List Sl} {K : List (Nat × Nat)} {T : List Ti.It} {p m eb mb lb tb cp : Nat} {tl : List Value} {FT : List Nat} {f : Nat → Option Value} {es : List EnV} (h : CSc w cb n k0 k1 now row L K T p m eb mb lb tb cp tl FT f es)
    (hN : ∀ y, Part cb eb mb lb tb FT f y → y ∈ F) : ∃ F', CS F' w cb n k0 k1 now row L K T p m ∧ ∀ y ∈ F', y ∈ F := by
  refine ⟨F.filter fun y => @decide (Part cb eb mb lb tb FT f y) (Classical.propDecidable _), ⟨eb, mb, lb, tb, cp, tl, FT, f, es, h, fun y => ?_⟩, fun y hy => (List.mem_filter.1 hy).1⟩
  rw [List.mem_filter]
  simp only [decide_eq_true_eq]
  exact ⟨fun hh => hh.2, fun hh => ⟨hN y hh, hh⟩⟩
theorem len_two {α : Type} (p q : α → Bool) (h : ∀ x, q x = !p x) : ∀ l : List α, (l.filter p).length + (l.filter q).length = l.length
  | [] => rfl
  | x :: l => by
    have ih := len_two p q h l
    rw [List.filter_cons, List.filter_cons, h x]
    cases p x <;> simp <;> omega
theorem dueL_len {L : List Sl} {T : List Ti.It} (h : Sync L T) (now : Int) : (Ti.dueL T now).length = L.length - (restS L now).length := by
  have h1 : (Ti.dueL T now).length = ((T.map fun x => (x.id, x.due)).filter fun y => decide (y.2 ≤ now)).length := by
    unfold Ti.dueL
    rw [List.length_map, ((Ti.sortL_perm T).filter _).length_eq, List.filter_map, List.length_map]
    rfl
  have h2 := (h.filter fun y => decide (y.2 ≤ now)).length_eq
  have h3 : ((L.map fun x => ((x.s : Int), x.e.til)).filter fun y => decide (y.2 ≤ now)).length = (L.filter fun x => decide (x.e.til ≤ now)).length := by
    rw [List.filter_map, List.length_map]
    rfl
  have h4 := len_two (fun x : Sl => decide (x.e.til ≤ now)) (fun x : Sl => decide (now < x.e.til)) (fun x => by rw [Bool.eq_iff_iff]; simp) L
  unfold restS
  omega
def outS (L : List Sl) (l : List Int) : List Sl := L.filter fun x => decide ((x.s : Int) ∉ l)
theorem outS_nil (L : List Sl) : outS L [] = L := by unfold outS; exact List.filter_eq_self.2 fun x _ => by simp
theorem outS_snoc (L : List Sl) (l : List Int) (s : Nat) : outS L (l ++ [(s : Int)]) = cutS (outS L l) s := by
  unfold outS cutS
  rw [List.filter_filter]
  apply List.filter_congr
  intro x _
  rw [Bool.eq_iff_iff]
  simp only [List.mem_append, List.mem_singleton, decide_eq_true_eq, Bool.and_eq_true, not_or, ne_eq]
  constructor
  · rintro ⟨h1, h2⟩; exact ⟨fun e => h2 (by rw [e]), h1⟩
  · rintro ⟨h1, h2⟩; exact ⟨h2, fun e => h1 (by omega)⟩
theorem outS_all {L : List Sl} {T : List Ti.It} (h : Sync L T) (now : Int) (hn : (rowS L).Nodup) : outS L (Ti.dueL T now) = restS L now := by
  unfold outS restS
  apply List.filter_congr
  intro x hx
  rw [Bool.eq_iff_iff, decide_eq_true_eq, decide_eq_true_eq, h.due]
  constructor
  · intro hh
    refine Classical.byContradiction fun h2 => hh ⟨x, hx, rfl, by omega⟩
  · rintro hlt ⟨y, hy, e, hd⟩
    have : y = x := inj_of_nodup hn hy hx (by show y.s = x.s; omega)
    subst this
    omega
theorem outS_con {k0 k1 : Nat} {L : List Sl} {K : List (Nat × Nat)} (h : Con k0 k1 (rowS L) L K) (s : Nat) : Con k0 k1 (rowS (cutS L s)) (cutS L s) (cutK K s) := by
  have h2 := h.cut s
  have e : Lr.dropL (rowS L) s = rowS (cutS L s) := by rw [cutS_row]; rfl
  rw [e] at h2
  exact h2
/-- What holds while what is over is removed. -/
def AdvR (F : List Nat) (w : World) (cb n k0 k1 : Nat) (now' : Int) (L : List Sl) (T2 : List Ti.It) (p m : Nat) (dl : List Int) (v : Value) (B : Nat) (i : Value) (wr : World) : Prop :=
  ∃ (j : Nat) (K' : List (Nat × Nat)), j ≤ dl.length ∧ i = .int .i64 (j : Nat) ∧ Aft F w wr (fun F' => CS F' wr cb n k0 k1 now' (rowS (outS L (dl.take j))) (outS L (dl.take j)) K' T2 p m ∧ ∀ g, v.ownBlock = some g → g ∉ F') ∧ Con k0 k1 (rowS (outS L (dl.take j))) (outS L (dl.take j)) K' ∧ Ti.OwnZ B wr v dl
theorem ownZ_keep {B : Nat} {S : List Nat} {w w' : World} {v : Value} {l : List Int} (h : Ti.OwnZ B w v l) (hc : Chg S w w') (hS : ∀ g, v.ownBlock = some g → g ∉ S) : Ti.OwnZ B w' v l := by
  obtain ⟨h0, h⟩ := h
  refine ⟨h0, ?_⟩
  rcases h with h | ⟨g, cap, cur, rfl, hb, hh, r⟩
  · exact .inl h
  · exact .inr ⟨g, cap, cur, rfl, hb, hc.keep hh (hS g rfl), r⟩
theorem ownZ_lt {B : Nat} {w : World} {v : Value} {l : List Int} (h : Ti.OwnZ B w v l) : ∀ g, v.ownBlock = some g → B ≤ g ∧ g < w.heap.size := by
  intro g hg
  obtain ⟨h0, h⟩ := h
  rcases h with ⟨rfl, _⟩ | ⟨g', cap, cur, rfl, hb, hh, r⟩
  · cases hg
  · cases hg
    exact ⟨hb, lt_of_block hh⟩

section
variable (F : List Nat) (cb n k0 k1 : Nat) (now : Int) (L : List Sl) (p m : Nat) (w : World)
set_option maxRecDepth 100000 in
set_option maxHeartbeats 8000000 in
theorem advance_any (t now' : Int) (c : Nat) (h : CF F w cb n k0 k1 now L p m) (ht : now' = clampT now t) (hc : Hid (c = L.length - (restS L now').length)) (hp : p ≤ 1000000) (hm : m ≤ 1000000) :
    Calls Try.prog 27 #[.pointer (some ⟨cb, 0, none⟩), .int .i64 t] w fun e w' => e = .returned (.int .i64 (c : Nat)) ∧ Aft F w w' fun F' => CF F' w' cb n k0 k1 now' (restS L now') p m := by
  obtain ⟨K, T, hS, hcon, hsy⟩ := h
  obtain ⟨eb, mb, lb, tb, cp, tl, FT, f, es, hC, hF⟩ := id hS
  have c3 : w.cell? ⟨cb, 3, none⟩ = some (.int .i64 now) := cell_of hC.head
  have f3 : w.frozen? ⟨cb, 3, none⟩ = false := free_of hC.head
  have HC := Lib.hid hC
  have HF := Lib.hid hF
  have HCON := Lib.hid hcon
  have HSY := Lib.hid hsy
  have HT := Lib.hid ht
  clear hC hS hcon hsy hF ht
  go_enter Try.func27, Try.ntmps27
  go_wp2_with fail
  have e : min (max t now) 1099511627776 = now' := HT.out.symm
  rw [e]
  refine wp_abs ?_
  intro w1 hw1
  have hC1 : CSc w1 cb n k0 k1 now' (rowS L) L K T p m eb mb lb tb cp tl FT f es := by rw [hw1]; exact HC.out.tick now'
  have hin : ∀ y, Part cb eb mb lb tb FT f y → y ∈ F := fun y hy => (HF.out y).2 hy
  have hc1 : Chg F w w1 := by rw [hw1]; exact (Chg.refl F w).setCell (.inl (hin _ (.inl rfl))) _
  have S1 : Hid (w1.cell? ⟨cb, 7, none⟩ = some (.pointer (some ⟨tb, 0, none⟩)) ∧ w1.cell? ⟨cb, 3, none⟩ = some (.int .i64 now')) := Lib.hid ⟨cell_of hC1.head, cell_of hC1.head⟩
  have HC1 := Lib.hid hC1
  have HCH1 := Lib.hid hc1
  have HIN := Lib.hid hin
  clear hw1 hC1 hc1 hin c3 f3 e
  go_region_held3 (fun W => W.cell? ⟨cb, 7, none⟩ = some (.pointer (some ⟨tb, 0, none⟩)) ∧ W.cell? ⟨cb, 3, none⟩ = some (.int .i64 now')) (first | (with_reducible exact S2.out) | exact S1.out) (first | (go_at_call 47; refine (Ti.due_any tb FT T p now' w1.drew (HC1.out.tim.drewN 1) hp).mono ?_; rintro e9 w2 ⟨v, rfl, hv2, ht2, hc2⟩; replace hc2 := hc2.undrew; obtain ⟨FT2, ht3, hsub, hty⟩ := tim_tight ht2; have hC2 := HC1.out.timers hc2 ht3 (fun y hy => .inl (hsub y hy)) hty; have S2 := Lib.hid (And.intro (show w2.cell? ⟨cb, 7, none⟩ = some (.pointer (some ⟨tb, 0, none⟩)) from cell_of hC2.head) (show w2.cell? ⟨cb, 3, none⟩ = some (.int .i64 now') from cell_of hC2.head))))
  have hv3 : Ti.OwnZ w1.heap.size w2 v (Ti.dueL T now') := hv2
  have hdl := dueL_len HSY.out now'
  rw [← hc.out] at hdl
  have hdn := dueL_nodup (now := now') HC1.out.tim.ok.ids
  have haft0 : Aft F w w2 (fun F' => CS F' w2 cb n k0 k1 now' (rowS L) L K (Ti.restL T now') p m ∧ ∀ g, v.ownBlock = some g → g ∉ F') := by
    have hcF : Chg F w w2 := HCH1.out.trans (hc2.mono (fun y hy => by
      rcases List.mem_cons.1 hy with e | e
      · rw [e]; exact HIN.out _ (.inr (.inr (.inr (.inr (.inl rfl)))))
      · exact HIN.out _ (.inr (.inr (.inr (.inr (.inr (.inl e))))))))
    obtain ⟨F', h1, h2⟩ := CS.within (F := F) hC2 (fun y hy => by
      rcases hy with e | e | e | e | e | e | e
      · exact HIN.out y (.inl e)
      · exact HIN.out y (.inr (.inl e))
      · exact HIN.out y (.inr (.inr (.inl e)))
      · exact HIN.out y (.inr (.inr (.inr (.inl e))))
      · exact HIN.out y (.inr (.inr (.inr (.inr (.inl e)))))
      · exact HIN.out y (.inr (.inr (.inr (.inr (.inr (.inl (hsub y e)))))))
      · exact HIN.out y (.inr (.inr (.inr (.inr (.inr (.inr e)))))))
    refine ⟨F', ⟨h1, fun g hg hgF => ?_⟩, fun y hy => .inl (h2 y hy), hcF⟩
    obtain ⟨hg1, _⟩ := ownZ_lt hv3 g hg
    have hs1 := HCH1.out.size
    have := HC.out.part_lt ((HF.out g).1 (h2 g hgF))
    omega
  have hconL := HCON.out
  have hTid := HC1.out.tim.ok.ids
  have hrst := outS_all HSY.out now' HCON.out.nd
  obtain ⟨dl, hdle⟩ : ∃ dl, dl = Ti.dueL T now' := ⟨_, rfl⟩
  have hdue : ∀ i, i ∈ dl → ∃ x ∈ L, (x.s : Int) = i := fun i hi => by
    rw [hdle] at hi
    obtain ⟨x, hx, e, _⟩ := HSY.out.due.1 hi
    exact ⟨x, hx, e⟩
  have habs : ∀ i, i ∈ dl → Ti.delL (Ti.restL T now') i = Ti.restL T now' := fun i hi => Ti.delL_absent (rest_absent hTid (by rw [← hdle]; exact hi))
  rw [← hdle] at hv3 hdl hdn hrst
  obtain ⟨T2, hT2⟩ : ∃ T2, T2 = Ti.restL T now' := ⟨_, rfl⟩
  rw [← hT2] at habs haft0
  obtain ⟨B, hB⟩ : ∃ B, B = w1.heap.size := ⟨_, rfl⟩
  rw [← hB] at hv3
  have hdlen : dl.length ≤ 1000 := by have := HCON.out.len; have := hc.out; omega
  obtain ⟨va, vc, rfl⟩ : ∃ va vc, v = .slice va dl.length vc := (Ti.OwnZ.row hv3).slice
  obtain ⟨ln, hln⟩ : ∃ ln, ln = dl.length := ⟨_, rfl⟩
  rw [← hln] at hdlen hdl
  have HLN := Lib.hid hln
  have HDL := Lib.hid hdl
  have HDN := Lib.hid hdn
  have HRST := Lib.hid hrst
  have HDUE := Lib.hid hdue
  have HABS := Lib.hid habs
  have HT2 := Lib.hid hT2
  have hstart : AdvR F w cb n k0 k1 now' L T2 p m dl (.slice va dl.length vc) B (.int .i64 0) w2 := ⟨0, K, Nat.zero_le _, rfl, by rw [List.take_zero, outS_nil]; exact haft0, by rw [List.take_zero, outS_nil]; exact hconL, hv3⟩
  rw [← hln] at hstart ⊢
  have HSTART := Lib.hid hstart
  clear hln hdl hdn hrst hdue habs hT2 hstart haft0 hv3 hv2 hB hdle hTid hconL hC2 ht3 ht2 hsub hty hc2 S1 S2
  go_wp2_with fail
  go_loopw [29] (AdvR F w cb n k0 k1 now' L T2 p m dl (.slice va ln vc) B) (fun i _ => ln - (intOf i).toNat)
  case atStart => exact HSTART.out
  case round =>
    clear HSTART
    obtain ⟨j, K', hj, rfl, haft, hcon, hv⟩ := hrel
    rw [← HLN.out] at hj
    have HAFT := Lib.hid haft
    have HCONJ := Lib.hid hcon
    have HV := Lib.hid hv
    clear haft hcon hv
    by_cases hlt : j < ln
    · have hjl : j < dl.length := by rw [← HLN.out]; exact hlt
      obtain ⟨F', ⟨hS, hg⟩, hF', hchF⟩ := HAFT.out
      obtain ⟨x, hxL, hxs⟩ := HDUE.out dl[j] (List.getElem_mem hjl)
      have hxo : x ∈ outS L (dl.take j) := by
        unfold outS
        rw [List.mem_filter]
        refine ⟨hxL, ?_⟩
        rw [decide_eq_true_eq]
        intro hh
        obtain ⟨t, ht, e⟩ := List.getElem_of_mem hh
        rw [List.getElem_take] at e
        have ht2 : t < j := by simp at ht; omega
        have := (List.getElem_inj (h₀ := by simp at ht; omega) (h₁ := hjl) HDN.out).1 (e.trans hxs)
        omega
      have hcell : ∃ g, va = some ⟨g, 0, none⟩ ∧ wr.cell? ⟨g, j, none⟩ = some (.int .i64 (x.s : Nat)) := by
        rcases Ti.OwnZ.row HV.out with ⟨e, _⟩ | ⟨g, c', e, hx⟩
        · rw [e] at hjl; simp at hjl
        · injection e with e1
          exact ⟨g, e1, by rw [hxs]; exact hx j hjl⟩
      obtain ⟨g, rfl, hcell⟩ := hcell
      obtain ⟨o1, o2, o3⟩ := HCONJ.out.ok x hxo
      have hrem := remove_any F' cb n k0 k1 now' _ _ K' T2 p m wr x hS hxo (by omega) o2 o3 (HCONJ.out.mem hxo) HCONJ.out.keys (by have := HCONJ.out.klen; omega) hp hm
      have HREM := Lib.hid hrem
      have HX := Lib.hid (And.intro hxL hxs)
      have HG := Lib.hid hg
      have HFF := Lib.hid hF'
      have HCHF := Lib.hid hchF
      have HLOW := Lib.hid hS.low
      clear hrem hS hg hF' hchF hxo o1 o2 o3 hxL hxs
      go_wp2_with fail
      refine HREM.out.mono ?_
      rintro e9 w9 ⟨rfl, haft9⟩
      have hnew : AdvR F w cb n k0 k1 now' L T2 p m dl (.slice (some ⟨g, 0, none⟩) ln vc) B (.int .i64 ((j + 1 : Nat) : Int)) w9 := by
        have htk : outS L (dl.take (j + 1)) = cutS (outS L (dl.take j)) x.s := by
          rw [List.take_succ_eq_append_getElem hjl, ← HX.out.2, outS_snoc]
        refine ⟨j + 1, cutK K' x.s, by rw [← HLN.out]; omega, rfl, ?_, ?_, ?_⟩
        · rw [htk]
          obtain ⟨F9, h1, h2, h3⟩ := haft9
          refine ⟨F9, ⟨?_, fun g' hg' hgF => ?_⟩, fun y hy => ?_, HCHF.out.trans_new h3 HFF.out⟩
          · rw [HABS.out _ (by rw [HX.out.2]; exact List.getElem_mem hjl)] at h1
            have e : Lr.dropL (rowS (outS L (dl.take j))) x.s = rowS (cutS (outS L (dl.take j)) x.s) := by rw [cutS_row]; rfl
            rw [e] at h1
            exact h1
          · rcases h2 g' hgF with e | e
            · exact HG.out g' hg' e
            · have := (ownZ_lt HV.out g' hg').2
              omega
          · rcases h2 y hy with e | e
            · exact HFF.out y e
            · right; have := HCHF.out.size; omega
        · rw [htk]
          exact outS_con HCONJ.out x.s
        · have hv := HV.out
          obtain ⟨F9, h1, h2, h3⟩ := haft9
          exact ownZ_keep hv h3 fun g' hg' => HG.out g' hg'
      have HNEW := Lib.hid hnew
      clear hnew haft9 hcell
      go_wp2
      go_roundw
      case rel => exact HNEW.out
      case measure => simp [intOf] <;> omega
    · obtain rfl : j = ln := by omega
      have hall : dl.take j = dl := by rw [HLN.out]; exact List.take_of_length_le (Nat.le_refl _)
      rw [hall, HRST.out] at HAFT HCONJ
      have hcln : c = j := HDL.out.symm
      have hfin : Aft F w wr (fun F' => CF F' wr cb n k0 k1 now' (restS L now') p m) := HAFT.out.mono fun F1 h1 => ⟨K', T2, h1.1, HCONJ.out, by rw [HT2.out]; exact HSY.out.rest now'⟩
      have HFIN := Lib.hid hfin
      subst hcln
      clear hfin hall HAFT
      go_wp2
      go_ret
      exact ⟨rfl, HFIN.out⟩
end

end Go.Proofs.Ytgdnfempcjlipaa
