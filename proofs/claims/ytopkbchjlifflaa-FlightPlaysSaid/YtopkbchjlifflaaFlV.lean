/- The document's table of questions under way: End. -/
import Derived.Test.YtopkbchjlifflaaFlU
namespace Go.Proofs.Ytopkbchjlifflaa
open Go.RowKit Go.Maps

/-- Two lists, member by member. -/
def Pw {α β : Type} (R : α → β → Prop) (l : List α) (l' : List β) : Prop := l.length = l'.length ∧ ∀ i (h : i < l.length) (h' : i < l'.length), R l[i] l'[i]
theorem Pw.append {α β : Type} {R : α → β → Prop} {a b : List α} {a' b' : List β} (h : Pw R a a') (k : Pw R b b') : Pw R (a ++ b) (a' ++ b') := by
  refine ⟨by rw [List.length_append, List.length_append, h.1, k.1], fun i hi hi' => ?_⟩
  have e := h.1
  by_cases hlt : i < a.length
  · rw [List.getElem_append_left hlt, List.getElem_append_left (by omega)]
    exact h.2 i hlt (by omega)
  · rw [List.getElem_append_right (by omega), List.getElem_append_right (by omega)]
    have := k.2 (i - a.length) (by rw [List.length_append] at hi; omega) (by rw [List.length_append] at hi'; omega)
    have e2 : i - a'.length = i - a.length := by omega
    simp only [e2]
    exact this
theorem Pw.take {α β : Type} {R : α → β → Prop} {a : List α} {a' : List β} (h : Pw R a a') (k : Nat) : Pw R (a.take k) (a'.take k) := by
  refine ⟨by rw [List.length_take, List.length_take, h.1], fun i hi hi' => ?_⟩
  rw [List.getElem_take, List.getElem_take]
  exact h.2 i (by simp at hi; omega) (by simp at hi'; omega)
theorem Pw.drop {α β : Type} {R : α → β → Prop} {a : List α} {a' : List β} (h : Pw R a a') (k : Nat) : Pw R (a.drop k) (a'.drop k) := by
  refine ⟨by rw [List.length_drop, List.length_drop, h.1], fun i hi hi' => ?_⟩
  rw [List.getElem_drop, List.getElem_drop]
  exact h.2 _ (by simp at hi; omega) (by simp at hi'; omega)
theorem Pw.mono {α β : Type} {R R' : α → β → Prop} {a : List α} {a' : List β} (h : Pw R a a') (hr : ∀ x y, R x y → R' x y) : Pw R' a a' := ⟨h.1, fun i hi hi' => hr _ _ (h.2 i hi hi')⟩
theorem RTs.pw {G : List Nat} {w : World} {x n m : Nat} {L : List Fl} {v : Value} {rs : List RF} (h : RTs G w x n m L v rs) : Pw (RecOk G w) rs L := ⟨h.len, h.recs⟩
theorem endF_cut : ∀ (L : List Fl), (slotsF L).Nodup → ∀ k (h : k < L.length), endF L L[k].slot = L.take k ++ L.drop (k + 1) := by
  intro L
  induction L with
  | nil => intro _ k h; simp at h
  | cons f L ih =>
    intro hn k h
    have hn2 : f.slot ∉ slotsF L ∧ (slotsF L).Nodup := by
      unfold slotsF at hn ⊢
      rw [List.map_cons, List.nodup_cons] at hn
      exact hn
    cases k with
    | zero =>
      simp only [List.take_zero, List.nil_append, List.drop_succ_cons, List.drop_zero, List.getElem_cons_zero]
      unfold endF
      rw [List.filter_cons, if_neg (by simp), List.filter_eq_self]
      intro g hg
      simp
      intro e
      exact hn2.1 (by rw [← e]; exact List.mem_map.2 ⟨g, hg, rfl⟩)
    | succ k =>
      have hk : k < L.length := by simpa using h
      have hne : f.slot ≠ L[k].slot := fun e => hn2.1 (by rw [e]; exact List.mem_map.2 ⟨_, List.getElem_mem hk, rfl⟩)
      simp only [List.take_succ_cons, List.cons_append, List.drop_succ_cons, List.getElem_cons_succ]
      rw [← ih hn2.2 k hk]
      unfold endF
      rw [List.filter_cons, if_pos (by simpa using hne)]
theorem news_take {w : World} {g : Nat} {rs : List RF} (h : ∀ j u, (rs.flatMap rfV)[j]? = some u → w.cell? ((⟨g, 0, none⟩ : Addr).add j) = some u) (k : Nat) : ∀ j u, ((rs.take k).flatMap rfV)[j]? = some u → w.cell? ((⟨g, 0, none⟩ : Addr).add j) = some u := by
  intro j u hu
  refine h j u ?_
  have e : rs.flatMap rfV = (rs.take k).flatMap rfV ++ (rs.drop k).flatMap rfV := by rw [← List.flatMap_append, List.take_append_drop]
  have hj : j < ((rs.take k).flatMap rfV).length := by
    rcases Nat.lt_or_ge j ((rs.take k).flatMap rfV).length with hh | hh
    · exact hh
    · rw [List.getElem?_eq_none hh] at hu; cases hu
  rw [e, List.getElem?_append_left hj]
  exact hu
theorem news_drop {w : World} {g : Nat} {rs : List RF} (h : ∀ j u, (rs.flatMap rfV)[j]? = some u → w.cell? ((⟨g, 0, none⟩ : Addr).add j) = some u) (k : Nat) (hk : k ≤ rs.length) : ∀ j u, ((rs.drop k).flatMap rfV)[j]? = some u → w.cell? ((⟨g, k * 5, none⟩ : Addr).add j) = some u := by
  intro j u hu
  have e : rs.flatMap rfV = (rs.take k).flatMap rfV ++ (rs.drop k).flatMap rfV := by rw [← List.flatMap_append, List.take_append_drop]
  have hl : ((rs.take k).flatMap rfV).length = k * 5 := by rw [R.flat_len rfV 5 rfV_len, List.length_take]; omega
  have := h (k * 5 + j) u (by rw [e, List.getElem?_append_right (by omega), hl, show k * 5 + j - k * 5 = j by omega]; exact hu)
  rw [add_at] at this ⊢
  rw [Nat.zero_add] at this
  exact this
theorem own_base2 {base : Nat} {w : World} {t : TypeId} {sz : Nat} {v : Value} {n : Nat} {xs : List Value} (h : w.ownsRow base t sz v n xs) (g : Nat) (hg : v.ownBlock = some g) : base ≤ g := by
  rcases h.2 with ⟨rfl, _⟩ | ⟨g', cap, cur, rfl, hb, _⟩
  · simp [Value.ownBlock] at hg
  · simp [Value.ownBlock] at hg
    subst hg
    exact hb
/-- A new row is stored in the table. -/
theorem RTs.store {G : List Nat} {w w7 : World} {x n m : Nat} {L L' : List Fl} {v v7 : Value} {rs rs' : List RF} (hT : RTs G w x n m L v rs) (hc7 : Chg [] w w7) (hO : R.OwnR 98 5 rfV w.heap.size w7 v7 rs') (hp : Pw (RecOk G w7) rs' L') (hq : ∀ i (h : i < rs'.length) g, rs'[i].v.ownBlock = some g → g ≠ x) (hok : OkF n m L') :
    RNext G w (w7.setCell ⟨x, 2, none⟩ v7) x n m L' := by
  have hS : Chg [x] w7 (w7.setCell ⟨x, 2, none⟩ v7) := Chg.set1 _ _ _ _
  have hxl : x < w.heap.size := hT.flt x hT.fq
  have hne : ∀ g, v7.ownBlock = some g → g ∉ [x] := fun g hg => by have := (hO.blk g hg).1; simp; omega
  have hO2 := hO.chg hS hne
  have hgl : ∀ y ∈ G, y < w7.heap.size := fun y hy => Nat.lt_of_lt_of_le (hT.flt y hy) hc7.size
  refine ⟨blkL v7 ++ G, ⟨v7, rs', ?_, hO2.low (Nat.zero_le _), hp.1, fun i hi hi' => ?_, hok, hT.n1, hT.n32, hT.m16, by simp [hT.fq], fun g hg => ?_, fun i hi g hg => ?_, fun y hy => ?_⟩, ?_, fun y hy => ?_⟩
  · rw [heap_set (hc7.keep hT.head (by simp))]
    rfl
  · have k := hp.2 i hi hi'
    refine ⟨k.slot, k.q, ?_, fun g hg => by have := k.blk g hg; simp [this], k.nn⟩
    exact k.ws.chgS hS (fun g hg => by have := hq i hi g hg; simpa using this)
  · have : g ∈ blkL v7 := mem_blkL.2 hg
    simp [this]
  · refine ⟨hq i hi g hg, fun e => ?_⟩
    have k := (hp.2 i hi (by rw [← hp.1]; exact hi)).blk g hg
    have := hT.flt g k
    have := (hO.blk g e).1
    omega
  · rcases List.mem_append.1 hy with e | e
    · exact (hO2.blk y (mem_blkL.1 e)).2.1
    · exact Nat.lt_of_lt_of_le (hgl y e) hS.size
  · exact (hc7.mono (by simp)).trans (hS.mono (by simp [hT.fq]))
  · rcases List.mem_append.1 hy with e | e
    · exact .inr (hO.blk y (mem_blkL.1 e)).1
    · exact .inl e
section
variable (G : List Nat) (x n m : Nat) (L : List Fl) (w : World)
set_option maxRecDepth 100000 in
set_option maxHeartbeats 8000000 in
theorem rend_any (s : Int) (e : Nat) (L' : List Fl) (ws : List Wt) (h : RT G w x n m L) (he : Hid (e = errE L s)) (hL : Hid (L' = endA L s)) (hws : Hid (ws = goneF L s)) :
    Calls Try.prog 30 #[.pointer (some ⟨x, 0, none⟩), .int .i64 s] w fun r w' => ∃ a c, r = .returned (.tuple #[.slice a ws.length c, .int .i64 (e : Nat)]) ∧ RdW w' (.slice a ws.length c) ws ∧ (∀ g, (Value.slice a ws.length c).ownBlock = some g → g ∈ G) ∧ RNext G w w' x n m L' := by
  have hat := rat_any G x n m L w s h
  have hlen : L.length ≤ 32 := by have := h.ok.len; have := h.n32; omega
  obtain ⟨v, rs, hT⟩ := h
  have c2 : w.cell? ⟨x, 2, none⟩ = some v := cell_of hT.head
  go_enter Try.func30, Try.ntmps30
  go_wp2_with fail
  refine hat.mono ?_
  rintro r w1 ⟨⟨p, rfl, hp⟩, rfl⟩
  rcases hp with ⟨hu, k, rfl, hk, hsl⟩ | ⟨hu, rfl⟩
  · obtain ⟨g, cv, va, vc, rfl, hlc, hgl, d0, d1, d2, d3, d4, hrd, hbl, _, _⟩ := hT.cells hk
    obtain ⟨ln, hln⟩ : ∃ ln, ln = L.length := ⟨_, rfl⟩
    have hwse : ws = L[k].ws := by rw [hws.out]; unfold goneF wsF; rw [hu, if_pos rfl, ← hsl, Int.toNat_natCast, at_get hT.ok hk]; rfl
    have hee : e = 0 := by rw [he.out]; unfold errE; rw [hu]; rfl
    have hLe : L' = L.take k ++ L.drop (k + 1) := by rw [hL.out]; unfold endA; rw [hu, if_pos rfl, ← hsl, Int.toNat_natCast]; exact endF_cut L hT.ok.slots k hk
    rw [← hwse] at d4 hrd hbl
    obtain ⟨wl, hwl⟩ : ∃ wl, wl = ws.length := ⟨_, rfl⟩
    rw [← hwl] at d4 hrd hbl
    rw [← hln] at hlc c2 hlen
    subst hee
    have hkl : k < ln := by omega
    obtain ⟨i0, z, hi0, hz0, hz1, hz2, hz3⟩ := info_sizes elem_rf
    have hrl : rs.length = ln := by rw [hT.len, hln]
    have hrow := hT.row
    have hc2' := c2
    have hsrc0 : ∀ W, Chg [] w W → ∀ j u, (rs.flatMap rfV)[j]? = some u → W.cell? ((⟨g, 0, none⟩ : Addr).add j) = some u := by
      intro W hc j u hu
      have := (hrow.same hc)
      have e2 : (Value.slice (some (⟨g, 0, none⟩ : Addr)) L.length cv) = .slice (some ⟨g, 0, none⟩) rs.length cv := by rw [hrl, hln]
      rw [e2] at this
      exact this.src.2.2 _ rfl j u hu
    have HSRC1 : Hid (∀ W, Chg [] w W → ∀ j u, ((rs.take k).flatMap rfV)[j]? = some u → W.cell? ((⟨g, 0, none⟩ : Addr).add j) = some u) := Lib.hid fun W hc => news_take (hsrc0 W hc) k
    obtain ⟨pS, eS, hpS⟩ : ∃ pS : Addr, (if cv = k + 1 then some (⟨g, 0, none⟩ : Addr) else some ⟨g, (k + 1) * 5, none⟩) = some pS ∧ (cv = k + 1 ∨ pS = ⟨g, (k + 1) * 5, none⟩) := by
      by_cases h : cv = k + 1
      · exact ⟨⟨g, 0, none⟩, if_pos h, .inl h⟩
      · exact ⟨⟨g, (k + 1) * 5, none⟩, if_neg h, .inr rfl⟩
    have HSRC2 : Hid (∀ W, Chg [] w W → ∀ j u, ((rs.drop (k + 1)).flatMap rfV)[j]? = some u → W.cell? (pS.add j) = some u) := Lib.hid fun W hc j u hu => by
      rcases hpS with h | h
      · rw [List.drop_of_length_le (by omega)] at hu
        simp at hu
      · rw [h]
        exact news_drop (hsrc0 W hc) (k + 1) (by omega) j u hu
    have HL1 : Hid (((rs.take k).flatMap rfV).length = k * 5) := Lib.hid (by rw [R.flat_len rfV 5 rfV_len, List.length_take]; omega)
    have HL2 : Hid (((rs.drop (k + 1)).flatMap rfV).length = (ln - (k + 1)) * 5) := Lib.hid (by rw [R.flat_len rfV 5 rfV_len, List.length_drop, hrl])
    have HONE1 := Lib.hid (rf_one (rs.take k) fun r hr => hT.vs r (List.mem_of_mem_take hr))
    have HONE2 := Lib.hid (rf_one (rs.drop (k + 1)) fun r hr => hT.vs r (List.mem_of_mem_drop hr))
    have HNEW : Hid ((w.alloc (.cells #[] 98)).ownsRow w.heap.size 98 5 (.slice (some ⟨w.heap.size, 0, none⟩) 0 0) 0 []) := Lib.hid (R.OwnR.made (α := RF) _ _ rfV w)
    have a2 : (w.alloc (.cells #[] 98)).cell? ⟨x, 2, none⟩ = some (.slice (some ⟨g, 0, none⟩) ln cv) := by rw [hln]; exact cell_of (heap_old hT.head)
    have e1 : IntKind.i64.wrap ((k : Int) + 1) = (k : Int) + 1 := IntWalk.i64_in _ (by omega)
    have e2 : ((k : Int) + 1).toNat = k + 1 := by omega
    have i3 : (0 : Int) ≤ (k : Int) + 1 := by omega
    have i4 : (k : Int) + 1 ≤ (ln : Int) := by omega
    have i5 : (k : Int) ≤ (cv : Int) := by omega
    have i6 : (ln : Int) ≤ (cv : Int) := by omega
    have i7 : (0 : Int) ≤ (k : Int) := by omega
    have i8 : (k : Int) < (ln : Int) := by omega
    have HLE : Hid (ln ≤ 32 ∧ k < ln ∧ ln ≤ cv) := Lib.hid ⟨hlen, hkl, hlc⟩
    have HT := Lib.hid hT
    have HLN := Lib.hid hln
    have HES := Lib.hid eS
    have HLL := Lib.hid hLe
    have HRD := Lib.hid hrd
    have HBL := Lib.hid hbl
    have hbx : ∀ g, (Value.slice va wl vc).ownBlock = some g → g ∉ [x] := fun g hg => by simpa using (hbl g hg).2.1
    have HBX := Lib.hid hbx
    clear hbx
    have HWL := Lib.hid hwl
    have HRL := Lib.hid hrl
    clear hT hat he hL hws hwse hLe hrow hc2' hsrc0 hpS eS hrd hbl hwl hrl hln hlc hu hsl d0 d1 d2 d3
    go_wp2_with fail
    go_region_law (first | (refine step_append_own' _ rfl (.tmp 22) (.tmp 28) 94 rfl w.heap.size 98 i0 z 5 56 Try.underlying94 hi0 hz0 hz1 hz2 hz3 (by decide) (.slice (some ⟨w.heap.size, 0, none⟩) 0 0) 0 [] rfl HNEW.out ⟨g, 0, none⟩ k cv ((rs.take k).flatMap rfV) rfl HL1.out (HSRC1.out _ (((Chg.refl [] w).alloc (.cells #[] 98)).drew)) HONE1.out k (Nat.zero_add k) _ (List.nil_append _) (by have := HLE.out; unfold maxLen; omega) (by have := HLE.out; omega) (by simp) ?_; intro b6 c6 w6 own6 hg6 _; have hc6 : Chg [] w w6 := (((Chg.refl [] w).alloc (.cells #[] 98)).drew).grown hg6 (fun k hk => (by injection hk with hk; subst hk; exact .inr (Nat.le_refl _))); have k6 := hc6.cell c2 (by simp)) | (refine step_append_own' _ rfl (.tmp 29) (.tmp 36) 94 rfl w.heap.size 98 i0 z 5 56 Try.underlying94 hi0 hz0 hz1 hz2 hz3 (by decide) (.slice b6 k c6) k _ rfl own6 pS (ln - (k + 1)) (cv - (k + 1)) ((rs.drop (k + 1)).flatMap rfV) (congrArg (fun z => Value.slice z (ln - (k + 1)) (cv - (k + 1))) HES.out) HL2.out (HSRC2.out _ hc6) HONE2.out (ln - 1) (by have := HLE.out; omega) _ rfl (by have := HLE.out; unfold maxLen; omega) (by have := HLE.out; omega) hc6.size ?_; intro b7 c7 w7 own7 hg7 _; have hc7 : Chg [] w w7 := hc6.grown hg7 (fun g hg => .inr (own_base2 own6 g hg)); have k7 := hc7.cell c2 (by simp); have f7 : w7.frozen? ⟨x, 2, none⟩ = false := free_of (hc7.keep HT.out.head (by simp))))
    all_goals
      have HO7 := Lib.hid own7
      have HC7 := Lib.hid hc7
      clear own7 hc7 hg7 own6 hc6 hg6 k6 k7 f7
      rw [HES.out]
      go_wp2
      go_ret2
      have hfl : R.OwnR 98 5 rfV w.heap.size w7 (.slice b7 (ln - 1) c7) (rs.take k ++ rs.drop (k + 1)) := by
        have hl : (rs.take k ++ rs.drop (k + 1)).length = ln - 1 := by
          have := HRL.out
          rw [List.length_append, List.length_take, List.length_drop]
          omega
        unfold R.OwnR
        rw [hl, List.flatMap_append]
        exact HO7.out
      have hpw : Pw (RecOk G w7) (rs.take k ++ rs.drop (k + 1)) (L.take k ++ L.drop (k + 1)) := by
        have h0 := (HT.out.chg HC7.out (by simp)).pw
        exact (h0.take k).append (h0.drop (k + 1))
      have hok : OkF n m (L.take k ++ L.drop (k + 1)) := by
        have := HT.out.ok.fin L[k].slot
        rw [endF_cut L HT.out.ok.slots k hk] at this
        exact this
      have hst := HT.out.store HC7.out hfl hpw (fun i hi g hg => by
        have hm : (rs.take k ++ rs.drop (k + 1))[i] ∈ rs := by
          rcases List.mem_append.1 (List.getElem_mem hi) with e | e
          · exact List.mem_of_mem_take e
          · exact List.mem_of_mem_drop e
        obtain ⟨i', hi', ei⟩ := List.getElem_of_mem hm
        exact (HT.out.nq i' hi' g (by rw [ei]; exact hg)).1) hok
      rw [← HLL.out] at hst
      have hcg : Chg [x] w (w7.setCell ⟨x, 2, none⟩ (.slice b7 (ln - 1) c7)) := (HC7.out.mono (by simp)).trans (Chg.set1 _ _ _ _)
      rw [← HWL.out]
      exact ⟨va, vc, rfl, HRD.out.chgS hcg (fun g hg => HBX.out g hg), fun g hg => (HBL.out g hg).1, hst⟩
  · have hwse : ws = [] := by rw [hws.out]; unfold goneF; rw [hu]; rfl
    have hee : e = 6 := by rw [he.out]; unfold errE; rw [hu]; rfl
    have hLe : L' = L := by rw [hL.out]; unfold endA; rw [hu]; rfl
    subst hwse; subst hee; subst hLe
    have HT := Lib.hid hT
    clear hT hat he hL hws c2 hu
    go_wp2
    go_ret2
    exact ⟨none, 0, rfl, .inl ⟨rfl, _, _, rfl⟩, fun g hg => by simp [Value.ownBlock] at hg, RNext.refl ⟨v, rs, HT.out⟩ (Chg.refl _ _)⟩
end

end Go.Proofs.Ytopkbchjlifflaa
