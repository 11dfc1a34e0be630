/- The document's table of questions under way: Join. -/
import Derived.Test.YtopkbchjlifflaaFlW
import Derived.Test.YtopkbchjlifflaaOrdL
namespace Go.Proofs.Ytopkbchjlifflaa
open Go.RowKit Go.Maps

theorem own_nw {w : World} {base n : Nat} {a : Option Addr} {c : Nat} {l : List Wt} (h : R.OwnR 36 2 wV base w (.slice a n c) l) (hn : n = l.length) : w.ownsRow base 36 2 (.slice a n c) n (l.flatMap wV) := by
  subst hn
  exact h
theorem ownW {base : Nat} {w : World} {v : Value} {l : List Wt} {n : Nat} (h : w.ownsRow base 36 2 v (0 + l.length) ([] ++ l.flatMap wV)) (hn : n = l.length) : ∃ a c, v = .slice a n c ∧ R.OwnR 36 2 wV base w (.slice a n c) l := by
  subst hn
  rw [Nat.zero_add, List.nil_append] at h
  obtain ⟨a, c, rfl⟩ := R.OwnR.len (t := 36) (sz := 2) (f := wV) h
  exact ⟨a, c, rfl, h⟩
theorem news2 {W : World} {B : Nat} {a b : Value} {t : TypeId} (h : W.heap[B]? = some (.cells #[a, b] t (0, 0))) : ∀ j u, [a, b][j]? = some u → W.cell? ((⟨B, 0, none⟩ : Addr).add j) = some u := fun j u hu => World.news_of_block h j u (by simpa using hu)
/-- What append reads of a row that is known. -/
theorem RdW.src {w : World} {a : Option Addr} {k c : Nat} {l : List Wt} (h : RdW w (.slice a k c) l) : (l.flatMap wV ≠ [] → a ≠ none) ∧ ∀ p, a = some p → ∀ j u, (l.flatMap wV)[j]? = some u → w.cell? (p.add j) = some u := by
  rcases h with ⟨rfl, _⟩ | ⟨r, c2, e, hx⟩
  · exact ⟨fun h => absurd rfl h, fun p _ j u hu => by simp at hu⟩
  · injection e with e1 e2 e3
    subst e1
    refine ⟨fun _ hh => (by cases hh), fun p hp j u hu => ?_⟩
    cases hp
    have hj : j < l.length * 2 := by
      rcases Nat.lt_or_ge j (l.length * 2) with hh | hh
      · exact hh
      · rw [List.getElem?_eq_none (by rw [R.flat_len wV 2 wV_len]; exact hh)] at hu; cases hu
    have e := R.flat_get wV 2 wV_len l (j / 2) (by omega) (j % 2) (by omega)
    rw [show j / 2 * 2 + j % 2 = j by omega, hu] at e
    have := hx (j / 2) (by omega) (j % 2) u e.symm
    rw [show j / 2 * 2 + j % 2 = j by omega] at this
    rw [add_at, Nat.zero_add]
    exact this
/-- A cell of a row of the call's own is written. -/
theorem ownR_set {base : Nat} {w : World} {g n c : Nat} {l : List RF} (h : R.OwnR 98 5 rfV base w (.slice (some ⟨g, 0, none⟩) n c) l) {i j : Nat} (hi : i < l.length) (hj : j < 5) {u : Value} {y : RF} (he : (rfV l[i]).set j u = rfV y) :
    R.OwnR 98 5 rfV base (w.setCell ⟨g, i * 5 + j, none⟩ u) (.slice (some ⟨g, 0, none⟩) n c) (l.set i y) := by
  obtain ⟨h1, h2⟩ := h
  rcases h2 with ⟨hv, _⟩ | ⟨g2, cap, cur, hv, hg, hb, hn, hm, hs, ht⟩
  · cases hv
  · injection hv with e1 e2 e3
    injection e1 with e1
    injection e1 with e1
    subst e1; subst e3
    refine ⟨by rw [List.length_set, R.flat_len rfV 5 rfV_len, List.length_set], .inr ⟨g, c, cur.setIfInBounds (i * 5 + j) u, by rw [e2, List.length_set], hg, heap_set hb u, by rw [List.length_set]; exact hn, hm, by rw [Array.size_setIfInBounds]; exact hs, ?_⟩⟩
    rw [List.length_set, Array.toList_setIfInBounds, List.take_set, ht, flat_set rfV 5 rfV_len y j u hj l i hi he]
theorem setW_set {n m : Nat} {L : List Fl} (h : OkF n m L) {k : Nat} (hk : k < L.length) (ws : List Wt) : setW L L[k].slot ws = L.set k ⟨L[k].slot, L[k].q, ws⟩ := by
  apply List.ext_getElem (by simp [setW])
  intro i h1 h2
  have hi : i < L.length := by simpa [setW] using h1
  have e0 : (setW L L[k].slot ws)[i] = if L[i].slot = L[k].slot then ⟨L[i].slot, L[i].q, ws⟩ else L[i] := by simp [setW]
  rw [List.getElem_set, e0]
  by_cases e : k = i
  · subst e; simp
  · have hne : L[i].slot ≠ L[k].slot := by
      intro hh
      rcases Nat.lt_trichotomy i k with hlt | hlt | hlt
      · exact List.pairwise_iff_getElem.1 h.slots i k (by simpa [slotsF] using hi) (by simpa [slotsF] using hk) hlt (by simp [slotsF, hh])
      · exact e hlt.symm
      · exact List.pairwise_iff_getElem.1 h.slots k i (by simpa [slotsF] using hk) (by simpa [slotsF] using hi) hlt (by simp [slotsF, hh])
    rw [if_neg hne, if_neg e]
theorem RTs.joined {G : List Nat} {w w7 : World} {x n m g ln cv k q c7 : Nat} {b7 : Option Addr} {L : List Fl} {rs : List RF} {l7 : List Wt} (hT : RTs G w x n m L (.slice (some ⟨g, 0, none⟩) ln cv) rs) (hk : k < L.length) (hc : Chg [] w w7)
    (hO : R.OwnR 36 2 wV w.heap.size w7 (.slice b7 q c7) l7) (hl7 : l7.length ≤ m) :
    RNext G w (w7.setCell ⟨g, k * 5 + 4, none⟩ (.slice b7 q c7)) x n m (setW L L[k].slot l7) := by
  have hkr : k < rs.length := by rw [hT.len]; exact hk
  have hgG : g ∈ G := hT.fv g rfl
  have hS : Chg [g] w7 (w7.setCell ⟨g, k * 5 + 4, none⟩ (.slice b7 q c7)) := Chg.set1 _ _ _ _
  have hT7 := hT.chg hc (by simp)
  have hbg : ∃ cur, w.heap[g]? = some (.cells cur 98 (0, 0)) := by
    obtain ⟨_, h2⟩ := hT.row
    rcases h2 with ⟨hv, _⟩ | ⟨g2, cap, cur, hv, _, hb, _⟩
    · cases hv
    · injection hv with e1 _ _
      injection e1 with e1
      injection e1 with e1
      subst e1
      exact ⟨cur, hb⟩
  obtain ⟨cur0, hbg⟩ := hbg
  have hgx : g ≠ x := blk_ne hbg hT.head (by decide)
  have hgl : g < w.heap.size := hT.flt g hgG
  have hne : ∀ y, (Value.slice b7 q c7).ownBlock = some y → y ≠ g := fun y hy => by have := (hO.blk y hy).1; omega
  have hO2 := hO.chg hS (fun y hy => by simpa using hne y hy)
  have hrow := ownR_set hT7.row hkr (j := 4) (by omega) (u := .slice b7 q c7) (y := ⟨rs[k].slot, rs[k].q, .slice b7 q c7⟩) rfl
  rw [setW_set hT.ok hk]
  have hrk := hT7.recs k hkr hk
  refine ⟨blkL (.slice b7 q c7) ++ G, ⟨.slice (some ⟨g, 0, none⟩) ln cv, rs.set k ⟨rs[k].slot, rs[k].q, .slice b7 q c7⟩, ?_, hrow, by simp [hT.len], fun i hi hi' => ?_, ?_, hT.n1, hT.n32, hT.m16, by simp [hT.fq], fun y hy => ?_, fun i hi y hy => ?_, fun y hy => ?_⟩, ?_, fun y hy => ?_⟩
  · exact hS.keep hT7.head (by simpa using Ne.symm hgx)
  · simp only [List.getElem_set]
    by_cases e : k = i
    · rw [if_pos e, if_pos e]
      refine ⟨hrk.slot, hrk.q, rdW_own hO2, fun y hy => by have : y ∈ blkL (.slice b7 q c7) := mem_blkL.2 hy; simp [this], fun n' c' e2 => ?_⟩
      have e2' : Value.slice b7 q c7 = .slice none n' c' := e2
      obtain ⟨a2, c2, e3⟩ := hO2.len
      rw [e2'] at e3
      injection e3 with e4 e5 e6
      have hs := hO2
      rw [e2', e5] at hs
      exact hs.src.1 rfl
    · rw [if_neg e, if_neg e]
      have hi2 : i < rs.length := by simpa using hi
      have k2 := hT7.recs i hi2 (by simpa using hi')
      exact ⟨k2.slot, k2.q, k2.ws.chgS hS (fun y hy hh => (hT.nq i hi2 y hy).2 (by simp at hh; rw [hh]; rfl)), fun y hy => by have := k2.blk y hy; simp [this], k2.nn⟩
  · have := hT.ok.join L[k].slot hl7
    rw [setW_set hT.ok hk] at this
    exact this
  · cases hy
    simp [hgG]
  · simp only [List.getElem_set] at hy
    by_cases e : k = i
    · rw [if_pos e] at hy
      have := (hO.blk y hy).1
      have := hT.flt x hT.fq
      exact ⟨by omega, fun e2 => by injection e2 with e2; have e3 : g = y := e2; omega⟩
    · rw [if_neg e] at hy
      exact hT.nq i (by simpa using hi) y hy
  · rcases List.mem_append.1 hy with e | e
    · exact (hO2.blk y (mem_blkL.1 e)).2.1
    · have := hT7.flt y e
      exact Nat.lt_of_lt_of_le this hS.size
  · exact (hc.mono (by simp)).trans (hS.mono (by simp [hgG]))
  · rcases List.mem_append.1 hy with e | e
    · exact .inr (hO.blk y (mem_blkL.1 e)).1
    · exact .inl e
section
variable (G : List Nat) (x n m : Nat) (L : List Fl) (w : World)
set_option maxRecDepth 100000 in
set_option maxHeartbeats 8000000 in
theorem rjoin_any (s : Int) (y : Wt) (e : Nat) (L' : List Fl) (h : RT G w x n m L) (hr : Hid (joinF L m s y = (L', e))) :
    Calls Try.prog 29 #[.pointer (some ⟨x, 0, none⟩), .int .i64 s, .agg #[.int .i64 y.who, .string (bytesV y.data)]] w fun z w' => z = .returned (.int .i64 (e : Nat)) ∧ RNext G w w' x n m L' := by
  obtain ⟨who, hwho⟩ : ∃ who, who = y.who := ⟨_, rfl⟩
  obtain ⟨dx, hdx⟩ : ∃ dx, dx = bytesV y.data := ⟨_, rfl⟩
  rw [← hwho, ← hdx]
  obtain ⟨p0, hp0⟩ : ∃ p0, p0 = w.heap.size := ⟨_, rfl⟩
  have H := Lib.hid h
  have HWHO := Lib.hid hwho
  have HDX := Lib.hid hdx
  clear hwho hdx
  go_enter Try.func29, Try.ntmps29
  go_wp2_with fail
  rw [← hp0]
  refine calls_abs ?_
  intro W hW
  have b0 : W.heap[p0]? = some (.cells #[.int .i64 who, .string dx] 36 (0, 0)) := by rw [hW]; exact heap_new' _ _ _ hp0
  have hcW : Chg [] w W := by rw [hW]; exact (Chg.refl _ _).alloc _
  have hlo0 : w.heap.size ≤ p0 := by omega
  clear hW hp0
  have hat := rat_any G x n m L W s (h.same hcW)
  obtain ⟨v, rs, hT⟩ := h.same hcW
  have hlen : L.length ≤ 32 := by have := hT.ok.len; have := hT.n32; omega
  have b1 : W.cell? ⟨p0, 0, none⟩ = some (.int .i64 who) := cell_of b0
  have b2 : W.cell? ⟨p0, 1, none⟩ = some (.string dx) := cell_of b0
  clear h
  refine hat.mono ?_
  rintro e1 w1 ⟨⟨p, rfl, hp⟩, rfl⟩
  rcases hp with ⟨hu, k, rfl, hk, hsl⟩ | ⟨hu, rfl⟩
  · obtain ⟨g, cv, va, vc, rfl, hlc, hgl, d0, d1, d2, d3, d4, hrd, hbl, hnn, hfz⟩ := hT.cells hk
    have hws : wsF L s.toNat = L[k].ws := by unfold wsF; rw [← hsl, Int.toNat_natCast, at_get hT.ok hk]; rfl
    have hj : joinF L m s y = if who < 0 ∨ 65535 < who then (L, 1) else if m ≤ L[k].ws.length then (L, 9) else (setW L s.toNat (L[k].ws ++ [y]), 0) := by
      unfold joinF
      rw [hu, if_pos rfl, ← HWHO.out, hws]
    have hst : s.toNat = L[k].slot := by rw [← hsl, Int.toNat_natCast]
    rw [hst] at hj
    rw [hr.out] at hj
    have HJ := Lib.hid hj
    have HB0 := Lib.hid b0
    have HCW := Lib.hid hcW
    have HT := Lib.hid hT
    have HRD := Lib.hid hrd
    have HBL := Lib.hid hbl
    have HNN := Lib.hid hnn
    have HFZ0 := Lib.hid hfz
    have HGL0 := Lib.hid hgl
    clear hnn hfz hgl
    have c2 : W.cell? ⟨x, 2, none⟩ = some (.slice (some ⟨g, 0, none⟩) L.length cv) := cell_of hT.head
    have c1 : W.cell? ⟨x, 1, none⟩ = some (.int .i64 (m : Nat)) := cell_of hT.head
    have i8 : (k : Int) < (L.length : Int) := by omega
    have i7 : (0 : Int) ≤ (k : Int) := by omega
    clear hr hat hws hj hst b0 hcW hT hrd hbl hu hsl d0 d1 d2 d3
    by_cases h0 : who < 0
    · have t0 : decide (who < 0) = true := by simpa using h0
      have e1 := HJ.out
      rw [if_pos (.inl h0)] at e1
      injection e1 with e1 e2
      subst e1; subst e2
      clear h0
      go_wp2
      go_ret
      exact ⟨rfl, RNext.refl H.out HCW.out⟩
    have t0 : decide (who < 0) = false := by simpa using h0
    by_cases h1 : 65535 < who
    · have t1 : decide (65535 < who) = true := by simpa using h1
      have e1 := HJ.out
      rw [if_pos (.inr h1)] at e1
      injection e1 with e1 e2
      subst e1; subst e2
      clear h0 h1
      go_wp2
      go_ret
      exact ⟨rfl, RNext.refl H.out HCW.out⟩
    have t1 : decide (65535 < who) = false := by simpa using h1
    have e1 := HJ.out
    rw [if_neg (by omega)] at e1
    have HJ := Lib.hid e1
    clear e1 h0 h1
    obtain ⟨wl, hwl⟩ : ∃ wl, wl = L[k].ws.length := ⟨_, rfl⟩
    obtain ⟨ln, hln⟩ : ∃ ln, ln = L.length := ⟨_, rfl⟩
    rw [← hwl] at d4
    rw [← hln] at c2 i8 hlc hlen
    have HWL := Lib.hid hwl
    have HLN := Lib.hid hln
    clear hwl hln
    by_cases h2 : m ≤ wl
    · have t2 : decide (m ≤ wl) = true := by simpa using h2
      have t2I : decide ((m : Int) ≤ (wl : Int)) = true := by simp; omega
      have e1 := HJ.out
      rw [← HWL.out, if_pos h2] at e1
      injection e1 with e1 e2
      subst e1; subst e2
      clear h2
      go_wp2_with fail
      go_quiet (fail)
      go_wp2
      go_ret
      exact ⟨rfl, RNext.refl H.out (HCW.out.drewN _)⟩
    have t2 : decide (m ≤ wl) = false := by simpa using h2
    have t2I : decide ((m : Int) ≤ (wl : Int)) = false := by simp; omega
    have e1 := HJ.out
    rw [← HWL.out, if_neg h2] at e1
    injection e1 with e1 e2
    have HL' := Lib.hid e1
    subst e2
    have hmw : wl < m := by omega
    have hwl16 : wl ≤ 16 := by have := HT.out.ok.wait L[k] (List.getElem_mem hk); have := HT.out.m16; have := HWL.out; omega
    clear h2 e1
    go_wp2_with fail
    go_quiet (fail)
    generalize hw4 : W.drewN nq = w4
    have hc4 : Chg [] W w4 := by rw [← hw4]; exact (Chg.refl _ _).drewN _
    have hT4 := HT.out.chg hc4 (by simp)
    have hS4 : w4.cell? ⟨x, 2, none⟩ = some (.slice (some ⟨g, 0, none⟩) ln cv) ∧ w4.cell? ⟨g, k * 5 + 4, none⟩ = some (.slice va wl vc) ∧ w4.cell? ⟨p0, 0, none⟩ = some (.int .i64 who) ∧ w4.cell? ⟨p0, 1, none⟩ = some (.string dx) := ⟨hc4.cell c2 (by simp), hc4.cell d4 (by simp), hc4.cell b1 (by simp), hc4.cell b2 (by simp)⟩
    have hSk : ∀ W', Chg [] w4 W' → W'.cell? ⟨x, 2, none⟩ = some (.slice (some ⟨g, 0, none⟩) ln cv) ∧ W'.cell? ⟨g, k * 5 + 4, none⟩ = some (.slice va wl vc) ∧ W'.cell? ⟨p0, 0, none⟩ = some (.int .i64 who) ∧ W'.cell? ⟨p0, 1, none⟩ = some (.string dx) := fun W' hc => ⟨hc.cell hS4.1 (by simp), hc.cell hS4.2.1 (by simp), hc.cell hS4.2.2.1 (by simp), hc.cell hS4.2.2.2 (by simp)⟩
    have HSK := Lib.hid hSk
    have HC4 := Lib.hid (HCW.out.trans hc4)
    have HCH := Lib.hid hc4
    have HT4 := Lib.hid hT4
    have hFIN : ∀ b7 c7 w7, Chg [] w4 w7 → w7.ownsRow w4.heap.size 36 2 (.slice b7 (wl + 1) c7) (wl + 1) (L[k].ws.flatMap wV ++ [.int .i64 who, .string dx]) → RNext G w (w7.setCell ⟨g, k * 5 + 4, none⟩ (.slice b7 (wl + 1) c7)) x n m L' := by
      intro b7 c7 w7 hc7 own7
      have ho : R.OwnR 36 2 wV w4.heap.size w7 (.slice b7 (wl + 1) c7) (L[k].ws ++ [y]) := by
        refine R.OwnR.snoc ?_
        have e : wV y = [.int .i64 who, .string dx] := by rw [HWHO.out, HDX.out]; rfl
        rw [e, ← HWL.out]
        exact own7
      have hj := HT4.out.joined hk hc7 ho (by rw [List.length_append, ← HWL.out]; simp; omega)
      rw [← HL'.out] at hj
      obtain ⟨G', h1, h2, h3⟩ := hj
      refine ⟨G', h1, (HC4.out.mono (by simp)).trans h2, fun z hz => ?_⟩
      rcases h3 z hz with e | e
      · exact .inl e
      · exact .inr (Nat.le_trans HC4.out.size e)
    have HFIN := Lib.hid hFIN
    clear hFIN hT4 hw4 c1 c2 b1 b2 d4 hSk hc4
    go_wp2_with fail
    have HSRC : Hid ((va = none → vc = 0) ∧ (L[k].ws.flatMap wV ≠ [] → va ≠ none)) := Lib.hid ⟨HNN.out, HRD.out.src.1⟩
    have hcW4 : Chg [] W w4 := HCH.out
    have HSR3 : Hid (∀ W', Chg [] w4 W' → ∀ p, va = some p → ∀ j u, (L[k].ws.flatMap wV)[j]? = some u → W'.cell? (p.add j) = some u) := Lib.hid fun W' hc => (HRD.out.chg (hcW4.trans hc)).src.2
    have HFL : Hid ((L[k].ws.flatMap wV).length = wl * 2) := Lib.hid (by rw [HWL.out]; exact R.flat_len wV 2 wV_len _)
    have HONE := Lib.hid (w_one L[k].ws)
    have HON2 : Hid (∀ u ∈ [Value.int .i64 who, .string dx], u.oneCell' = true) := Lib.hid (by
      intro u hu
      simp at hu
      rcases hu with rfl | rfl <;> rfl)
    have HFZ : Hid (w4.frozen? ⟨g, k * 5 + 4, none⟩ = false) := Lib.hid ((World.frozen?_of_block (w := W) (hcW4.block g HGL0.out (by simp))).trans HFZ0.out)
    have HGL : Hid (g < w4.heap.size) := Lib.hid (Nat.lt_of_lt_of_le HGL0.out hcW4.size)
    obtain ⟨i0, z, hi0, hz0, hz1, hz2, hz3⟩ := info_sizes Try.elemRW
    clear hcW4
    have hSd : w4.drew.cell? ⟨x, 2, none⟩ = some (.slice (some ⟨g, 0, none⟩) ln cv) ∧ w4.drew.cell? ⟨g, k * 5 + 4, none⟩ = some (.slice va wl vc) ∧ w4.drew.cell? ⟨p0, 0, none⟩ = some (.int .i64 who) ∧ w4.drew.cell? ⟨p0, 1, none⟩ = some (.string dx) := hS4
    refine wp_region_L (S := fun W => W.cell? ⟨x, 2, none⟩ = some (.slice (some ⟨g, 0, none⟩) ln cv) ∧ W.cell? ⟨g, k * 5 + 4, none⟩ = some (.slice va wl vc) ∧ W.cell? ⟨p0, 0, none⟩ = some (.int .i64 who) ∧ W.cell? ⟨p0, 1, none⟩ = some (.string dx)) (x := 20) (by kernel_rfl) ?_
    refine wpL_take (i := 0) (v := ?_) rfl (by kernel_rfl) (by kernel_rfl) (by kernel_rfl) (by kernel_rfl) (fun _ _ _ h => h) (Or.inl ⟨by rfl, ?_⟩) hSd ?_
    rotate_left
    · intro w hSw
      obtain ⟨s1, s2, s3, s4⟩ := hSw
      go_simp <;> (with_reducible rfl)
    try simp only [Act.put, List.setIfInBounds_toArray, List.set_cons_zero, List.set_cons_succ]
    refine wpL_take (i := 1) (v := ?_) rfl (by kernel_rfl) (by kernel_rfl) (by kernel_rfl) (by kernel_rfl) (fun _ _ _ h => h) (Or.inl ⟨by rfl, ?_⟩) hSd ?_
    rotate_left
    · intro w hSw
      obtain ⟨s1, s2, s3, s4⟩ := hSw
      go_simp <;> (with_reducible rfl)
    try simp only [Act.put, List.setIfInBounds_toArray, List.set_cons_zero, List.set_cons_succ]
    refine wpL_take (i := 2) (v := ?_) rfl (by kernel_rfl) (by kernel_rfl) (by kernel_rfl) (by kernel_rfl) (fun _ _ _ h => h) (Or.inl ⟨by rfl, ?_⟩) hSd ?_
    rotate_left
    · intro w hSw
      obtain ⟨s1, s2, s3, s4⟩ := hSw
      go_simp <;> (with_reducible rfl)
    try simp only [Act.put, List.setIfInBounds_toArray, List.set_cons_zero, List.set_cons_succ]
    refine wpL_take (i := 3) (v := ?_) rfl (by kernel_rfl) (by kernel_rfl) (by kernel_rfl) (by kernel_rfl) (fun _ _ _ h => h) (Or.inl ⟨by rfl, ?_⟩) hSd ?_
    rotate_left
    · intro w hSw
      obtain ⟨s1, s2, s3, s4⟩ := hSw
      go_simp <;> (with_reducible rfl)
    try simp only [Act.put, List.setIfInBounds_toArray, List.set_cons_zero, List.set_cons_succ]
    refine wpL_take (i := 4) (v := ?_) rfl (by kernel_rfl) (by kernel_rfl) (by kernel_rfl) (by kernel_rfl) (fun _ _ _ h => h) (Or.inl ⟨by rfl, ?_⟩) hSd ?_
    rotate_left
    · intro w hSw
      obtain ⟨s1, s2, s3, s4⟩ := hSw
      go_simp <;> (with_reducible rfl)
    try simp only [Act.put, List.setIfInBounds_toArray, List.set_cons_zero, List.set_cons_succ]
    refine wpL_take (i := 6) (v := ?_) rfl (by kernel_rfl) (by kernel_rfl) (by kernel_rfl) (by kernel_rfl) (fun _ _ _ h => h) (Or.inl ⟨by rfl, ?_⟩) hSd ?_
    rotate_left
    · intro w hSw
      obtain ⟨s1, s2, s3, s4⟩ := hSw
      go_simp <;> (with_reducible rfl)
    try simp only [Act.put, List.setIfInBounds_toArray, List.set_cons_zero, List.set_cons_succ]
    refine wpL_take (i := 7) (v := ?_) rfl (by kernel_rfl) (by kernel_rfl) (by kernel_rfl) (by kernel_rfl) (fun _ _ _ h => h) (Or.inl ⟨by rfl, ?_⟩) hSd ?_
    rotate_left
    · intro w hSw
      obtain ⟨s1, s2, s3, s4⟩ := hSw
      go_simp <;> (with_reducible rfl)
    try simp only [Act.put, List.setIfInBounds_toArray, List.set_cons_zero, List.set_cons_succ]
    refine wpL_take (i := 8) (v := ?_) rfl (by kernel_rfl) (by kernel_rfl) (by kernel_rfl) (by kernel_rfl) (fun _ _ _ h => h) (Or.inl ⟨by rfl, ?_⟩) hSd ?_
    rotate_left
    · intro w hSw
      obtain ⟨s1, s2, s3, s4⟩ := hSw
      go_simp <;> (with_reducible rfl)
    try simp only [Act.put, List.setIfInBounds_toArray, List.set_cons_zero, List.set_cons_succ]
    refine wpL_take (i := 9) (v := ?_) rfl (by kernel_rfl) (by kernel_rfl) (by kernel_rfl) (by kernel_rfl) (fun _ _ _ h => h) (Or.inl ⟨by rfl, ?_⟩) hSd ?_
    rotate_left
    · intro w hSw
      obtain ⟨s1, s2, s3, s4⟩ := hSw
      go_simp <;> (with_reducible rfl)
    try simp only [Act.put, List.setIfInBounds_toArray, List.set_cons_zero, List.set_cons_succ]
    refine wpL_take (i := 10) (v := ?_) rfl (by kernel_rfl) (by kernel_rfl) (by kernel_rfl) (by kernel_rfl) (fun _ _ _ h => h) (Or.inl ⟨by rfl, ?_⟩) hSd ?_
    rotate_left
    · intro w hSw
      obtain ⟨s1, s2, s3, s4⟩ := hSw
      go_simp <;> (with_reducible rfl)
    try simp only [Act.put, List.setIfInBounds_toArray, List.set_cons_zero, List.set_cons_succ]
    refine wpL_take (i := 11) (v := ?_) rfl (by kernel_rfl) (by kernel_rfl) (by kernel_rfl) (by kernel_rfl) (fun _ _ _ h => h) (Or.inl ⟨by rfl, ?_⟩) hSd ?_
    rotate_left
    · intro w hSw
      obtain ⟨s1, s2, s3, s4⟩ := hSw
      go_simp <;> (with_reducible rfl)
    try simp only [Act.put, List.setIfInBounds_toArray, List.set_cons_zero, List.set_cons_succ]
    refine wpL_take (i := 12) (v := ?_) rfl (by kernel_rfl) (by kernel_rfl) (by kernel_rfl) (by kernel_rfl) (fun _ _ _ h => h) (Or.inl ⟨by rfl, ?_⟩) hSd ?_
    rotate_left
    · intro w hSw
      obtain ⟨s1, s2, s3, s4⟩ := hSw
      go_simp <;> (with_reducible rfl)
    try simp only [Act.put, List.setIfInBounds_toArray, List.set_cons_zero, List.set_cons_succ]
    refine wpL_take (i := 13) (v := ?_) rfl (by kernel_rfl) (by kernel_rfl) (by kernel_rfl) (by kernel_rfl) (fun _ _ _ h => h) (Or.inl ⟨by rfl, ?_⟩) hSd ?_
    rotate_left
    · intro w hSw
      obtain ⟨s1, s2, s3, s4⟩ := hSw
      go_simp <;> (with_reducible rfl)
    try simp only [Act.put, List.setIfInBounds_toArray, List.set_cons_zero, List.set_cons_succ]
    refine wpL_take (i := 15) (v := ?_) rfl (by kernel_rfl) (by kernel_rfl) (by kernel_rfl) (by kernel_rfl) (fun _ _ _ h => h) (Or.inl ⟨by rfl, ?_⟩) hSd ?_
    rotate_left
    · intro w hSw
      obtain ⟨s1, s2, s3, s4⟩ := hSw
      go_simp <;> (with_reducible rfl)
    try simp only [Act.put, List.setIfInBounds_toArray, List.set_cons_zero, List.set_cons_succ]
    refine wpL_two (i := 5) (k := 16) (by kernel_rfl) rfl rfl (fun K hK => ?_) (fun K hK => ?_)
    ·
      go_simp
      refine hK.out _ _ (fun _ => ?_) ?_
      · exact HSK.out _ (by repeat (first | (with_reducible exact Chg.refl _ _) | (with_reducible refine Chg.alloc ?_ _) | (with_reducible refine Chg.drew ?_)))
      try simp only [Act.put, List.setIfInBounds_toArray, List.set_cons_zero, List.set_cons_succ]
      refine wpL_two (i := 14) (k := 16) (by kernel_rfl) rfl rfl (fun K hK => ?_) (fun K hK => ?_)
      ·
        refine step_append_src (by rfl) (.tmp 40) (.tmp 48) 26 (by rfl) w4.heap.size 36 i0 z 2 24 Try.underlying26 hi0 hz0 hz1 hz2 hz3 (by decide) (.slice (some ⟨_, 0, none⟩) 0 0) 0 [] (by rfl) (own_mt (by repeat (first | ((with_reducible refine heap_new' _ _ _ ?_); (first | rfl | (simp; done))) | (with_reducible refine heap_drewR ?_) | (with_reducible refine heap_old ?_) | ((with_reducible refine R.grown_at hg1 ?_ ?_); rotate_left; (intro e; simp [Value.ownBlock] at e <;> omega)))) (by first | omega | (simp; omega) | (simp; done))) va wl vc (L[k].ws.flatMap wV) (by rfl) HSRC.out.1 HSRC.out.2 HFL.out (HSR3.out _ (by repeat (first | (with_reducible exact Chg.refl _ _) | (with_reducible refine Chg.alloc ?_ _) | (with_reducible refine Chg.drew ?_)))) HONE.out (by unfold maxLen; omega) (by omega) (by first | omega | (simp; omega) | (simp; done)) ?_
        intro v1 w1 hown1 hg1 _
        rw [HWL.out] at hown1
        obtain ⟨a1, c1, rfl, hO⟩ := ownW hown1 HWL.out
        have hc1 : Chg [] w4 w1 := (Chg.grown (w := _) (by repeat (first | (with_reducible exact Chg.refl _ _) | (with_reducible refine Chg.alloc ?_ _) | (with_reducible refine Chg.drew ?_))) hg1 (fun k hk => by injection hk with hk; subst hk; right; first | omega | (simp; omega) | (simp; done)))
        refine hK.out _ _ (fun _ => ?_) ?_
        · exact HSK.out _ hc1
        try simp only [Act.put, List.setIfInBounds_toArray, List.set_cons_zero, List.set_cons_succ]
        refine wpL_one (i := 16) (by kernel_rfl) rfl (fun K hK => ?_)
        go_simp
        refine hK.out _ _ (fun _ => ?_) ?_
        · exact HSK.out _ (Chg.trans hc1 (by repeat (first | (with_reducible exact Chg.refl _ _) | (with_reducible refine Chg.alloc ?_ _) | (with_reducible refine Chg.drew ?_))))
        try simp only [Act.put, List.setIfInBounds_toArray, List.set_cons_zero, List.set_cons_succ]
        refine wpL_one (i := 17) (by kernel_rfl) rfl (fun K hK => ?_)
        refine step_append_own' _ (by rfl) (.tmp 49) (.tmp 51) 26 (by rfl) w4.heap.size 36 i0 z 2 24 Try.underlying26 hi0 hz0 hz1 hz2 hz3 (by decide) (.slice a1 wl c1) wl (L[k].ws.flatMap wV) (by rfl) (own_nw (R.OwnR.same hO (by repeat (first | (with_reducible exact Chg.refl _ _) | (with_reducible refine Chg.alloc ?_ _) | (with_reducible refine Chg.drew ?_)))) HWL.out) ⟨_, 0, none⟩ 1 1 [.int .i64 who, .string dx] (by rfl) (by rfl) (news2 (t := 36) (by repeat (first | ((with_reducible refine heap_new' _ _ _ ?_); (first | rfl | (simp; done))) | (with_reducible refine heap_drewR ?_) | (with_reducible refine heap_old ?_) | ((with_reducible refine R.grown_at hg1 ?_ ?_); rotate_left; (intro e; simp [Value.ownBlock] at e <;> omega))))) HON2.out (wl + 1) rfl _ rfl (by unfold maxLen; omega) (by omega) (Nat.le_trans hc1.size (by refine Chg.size (S := []) ?_; repeat (first | (with_reducible exact Chg.refl _ _) | (with_reducible refine Chg.alloc ?_ _) | (with_reducible refine Chg.drew ?_)))) ?_
        intro b7 c7 w7 own7 hg7 _
        have hc7 : Chg [] w4 w7 := (Chg.trans hc1 (by repeat (first | (with_reducible exact Chg.refl _ _) | (with_reducible refine Chg.alloc ?_ _) | (with_reducible refine Chg.drew ?_)))).grown hg7 (fun g hg => .inr (hO.blk g hg).1)
        refine hK.out _ _ (fun _ => ?_) ?_
        · exact HSK.out _ hc7
        try simp only [Act.put, List.setIfInBounds_toArray, List.set_cons_zero, List.set_cons_succ]
        have hS7 := HSK.out _ hc7
        refine wpL_one (i := 18) (by kernel_rfl) rfl (fun K hK => ?_)
        go_simp
        refine hK.out _ _ (fun _ => ?_) ?_
        · exact hS7
        try simp only [Act.put, List.setIfInBounds_toArray, List.set_cons_zero, List.set_cons_succ]
        refine wpL_one (i := 19) (by kernel_rfl) rfl (fun K hK => ?_)
        go_simp
        refine hK.out _ _ (fun _ => ?_) ?_
        · exact hS7
        try simp only [Act.put, List.setIfInBounds_toArray, List.set_cons_zero, List.set_cons_succ]
        refine wpL_one (i := 20) (by kernel_rfl) rfl (fun K hK => ?_)
        have d7 := hS7.2.1
        have f7 : w7.frozen? ⟨g, k * 5 + 4, none⟩ = false := (World.frozen?_of_block (w := w4) (hc7.block g HGL.out (by simp))).trans HFZ.out
        go_simp
        refine hK.out _ _ (fun h => absurd rfl h) ?_
        refine wpL_done (by kernel_rfl) ?_ _
        have HO7 := Lib.hid own7
        have HC7 := Lib.hid hc7
        clear own7 hg7 hc7 hO hg1 hc1 d7 f7 hS7
        go_wp2
        go_ret
        exact ⟨rfl, HFIN.out b7 c7 w7 HC7.out HO7.out⟩
      ·
        go_simp
        refine hK.out _ _ (fun _ => ?_) ?_
        · exact HSK.out _ (by repeat (first | (with_reducible exact Chg.refl _ _) | (with_reducible refine Chg.alloc ?_ _) | (with_reducible refine Chg.drew ?_)))
        try simp only [Act.put, List.setIfInBounds_toArray, List.set_cons_zero, List.set_cons_succ]
        refine wpL_one (i := 14) (by kernel_rfl) rfl (fun K hK => ?_)
        refine step_append_src (by rfl) (.tmp 40) (.tmp 48) 26 (by rfl) w4.heap.size 36 i0 z 2 24 Try.underlying26 hi0 hz0 hz1 hz2 hz3 (by decide) (.slice (some ⟨_, 0, none⟩) 0 0) 0 [] (by rfl) (own_mt (by repeat (first | ((with_reducible refine heap_new' _ _ _ ?_); (first | rfl | (simp; done))) | (with_reducible refine heap_drewR ?_) | (with_reducible refine heap_old ?_) | ((with_reducible refine R.grown_at hg1 ?_ ?_); rotate_left; (intro e; simp [Value.ownBlock] at e <;> omega)))) (by first | omega | (simp; omega) | (simp; done))) va wl vc (L[k].ws.flatMap wV) (by rfl) HSRC.out.1 HSRC.out.2 HFL.out (HSR3.out _ (by repeat (first | (with_reducible exact Chg.refl _ _) | (with_reducible refine Chg.alloc ?_ _) | (with_reducible refine Chg.drew ?_)))) HONE.out (by unfold maxLen; omega) (by omega) (by first | omega | (simp; omega) | (simp; done)) ?_
        intro v1 w1 hown1 hg1 _
        rw [HWL.out] at hown1
        obtain ⟨a1, c1, rfl, hO⟩ := ownW hown1 HWL.out
        have hc1 : Chg [] w4 w1 := (Chg.grown (w := _) (by repeat (first | (with_reducible exact Chg.refl _ _) | (with_reducible refine Chg.alloc ?_ _) | (with_reducible refine Chg.drew ?_))) hg1 (fun k hk => by injection hk with hk; subst hk; right; first | omega | (simp; omega) | (simp; done)))
        refine hK.out _ _ (fun _ => ?_) ?_
        · exact HSK.out _ hc1
        try simp only [Act.put, List.setIfInBounds_toArray, List.set_cons_zero, List.set_cons_succ]
        refine wpL_one (i := 17) (by kernel_rfl) rfl (fun K hK => ?_)
        refine step_append_own' _ (by rfl) (.tmp 49) (.tmp 51) 26 (by rfl) w4.heap.size 36 i0 z 2 24 Try.underlying26 hi0 hz0 hz1 hz2 hz3 (by decide) (.slice a1 wl c1) wl (L[k].ws.flatMap wV) (by rfl) (own_nw (R.OwnR.same hO (by repeat (first | (with_reducible exact Chg.refl _ _) | (with_reducible refine Chg.alloc ?_ _) | (with_reducible refine Chg.drew ?_)))) HWL.out) ⟨_, 0, none⟩ 1 1 [.int .i64 who, .string dx] (by rfl) (by rfl) (news2 (t := 36) (by repeat (first | ((with_reducible refine heap_new' _ _ _ ?_); (first | rfl | (simp; done))) | (with_reducible refine heap_drewR ?_) | (with_reducible refine heap_old ?_) | ((with_reducible refine R.grown_at hg1 ?_ ?_); rotate_left; (intro e; simp [Value.ownBlock] at e <;> omega))))) HON2.out (wl + 1) rfl _ rfl (by unfold maxLen; omega) (by omega) (Nat.le_trans hc1.size (by refine Chg.size (S := []) ?_; repeat (first | (with_reducible exact Chg.refl _ _) | (with_reducible refine Chg.alloc ?_ _) | (with_reducible refine Chg.drew ?_)))) ?_
        intro b7 c7 w7 own7 hg7 _
        have hc7 : Chg [] w4 w7 := (Chg.trans hc1 (by repeat (first | (with_reducible exact Chg.refl _ _) | (with_reducible refine Chg.alloc ?_ _) | (with_reducible refine Chg.drew ?_)))).grown hg7 (fun g hg => .inr (hO.blk g hg).1)
        refine hK.out _ _ (fun _ => ?_) ?_
        · exact HSK.out _ hc7
        try simp only [Act.put, List.setIfInBounds_toArray, List.set_cons_zero, List.set_cons_succ]
        have hS7 := HSK.out _ hc7
        refine wpL_one (i := 18) (by kernel_rfl) rfl (fun K hK => ?_)
        go_simp
        refine hK.out _ _ (fun _ => ?_) ?_
        · exact hS7
        try simp only [Act.put, List.setIfInBounds_toArray, List.set_cons_zero, List.set_cons_succ]
        refine wpL_one (i := 19) (by kernel_rfl) rfl (fun K hK => ?_)
        go_simp
        refine hK.out _ _ (fun _ => ?_) ?_
        · exact hS7
        try simp only [Act.put, List.setIfInBounds_toArray, List.set_cons_zero, List.set_cons_succ]
        refine wpL_one (i := 20) (by kernel_rfl) rfl (fun K hK => ?_)
        have d7 := hS7.2.1
        have f7 : w7.frozen? ⟨g, k * 5 + 4, none⟩ = false := (World.frozen?_of_block (w := w4) (hc7.block g HGL.out (by simp))).trans HFZ.out
        go_simp
        refine hK.out _ _ (fun h => absurd rfl h) ?_
        refine wpL_done (by kernel_rfl) ?_ _
        have HO7 := Lib.hid own7
        have HC7 := Lib.hid hc7
        clear own7 hg7 hc7 hO hg1 hc1 d7 f7 hS7
        go_wp2
        go_ret
        exact ⟨rfl, HFIN.out b7 c7 w7 HC7.out HO7.out⟩
    ·
      go_simp
      refine hK.out _ _ (fun _ => ?_) ?_
      · exact HSK.out _ (by repeat (first | (with_reducible exact Chg.refl _ _) | (with_reducible refine Chg.alloc ?_ _) | (with_reducible refine Chg.drew ?_)))
      try simp only [Act.put, List.setIfInBounds_toArray, List.set_cons_zero, List.set_cons_succ]
      refine wpL_one (i := 5) (by kernel_rfl) rfl (fun K hK => ?_)
      go_simp
      refine hK.out _ _ (fun _ => ?_) ?_
      · exact HSK.out _ (by repeat (first | (with_reducible exact Chg.refl _ _) | (with_reducible refine Chg.alloc ?_ _) | (with_reducible refine Chg.drew ?_)))
      try simp only [Act.put, List.setIfInBounds_toArray, List.set_cons_zero, List.set_cons_succ]
      refine wpL_one (i := 14) (by kernel_rfl) rfl (fun K hK => ?_)
      refine step_append_src (by rfl) (.tmp 40) (.tmp 48) 26 (by rfl) w4.heap.size 36 i0 z 2 24 Try.underlying26 hi0 hz0 hz1 hz2 hz3 (by decide) (.slice (some ⟨_, 0, none⟩) 0 0) 0 [] (by rfl) (own_mt (by repeat (first | ((with_reducible refine heap_new' _ _ _ ?_); (first | rfl | (simp; done))) | (with_reducible refine heap_drewR ?_) | (with_reducible refine heap_old ?_) | ((with_reducible refine R.grown_at hg1 ?_ ?_); rotate_left; (intro e; simp [Value.ownBlock] at e <;> omega)))) (by first | omega | (simp; omega) | (simp; done))) va wl vc (L[k].ws.flatMap wV) (by rfl) HSRC.out.1 HSRC.out.2 HFL.out (HSR3.out _ (by repeat (first | (with_reducible exact Chg.refl _ _) | (with_reducible refine Chg.alloc ?_ _) | (with_reducible refine Chg.drew ?_)))) HONE.out (by unfold maxLen; omega) (by omega) (by first | omega | (simp; omega) | (simp; done)) ?_
      intro v1 w1 hown1 hg1 _
      rw [HWL.out] at hown1
      obtain ⟨a1, c1, rfl, hO⟩ := ownW hown1 HWL.out
      have hc1 : Chg [] w4 w1 := (Chg.grown (w := _) (by repeat (first | (with_reducible exact Chg.refl _ _) | (with_reducible refine Chg.alloc ?_ _) | (with_reducible refine Chg.drew ?_))) hg1 (fun k hk => by injection hk with hk; subst hk; right; first | omega | (simp; omega) | (simp; done)))
      refine hK.out _ _ (fun _ => ?_) ?_
      · exact HSK.out _ hc1
      try simp only [Act.put, List.setIfInBounds_toArray, List.set_cons_zero, List.set_cons_succ]
      refine wpL_one (i := 17) (by kernel_rfl) rfl (fun K hK => ?_)
      refine step_append_own' _ (by rfl) (.tmp 49) (.tmp 51) 26 (by rfl) w4.heap.size 36 i0 z 2 24 Try.underlying26 hi0 hz0 hz1 hz2 hz3 (by decide) (.slice a1 wl c1) wl (L[k].ws.flatMap wV) (by rfl) (own_nw (R.OwnR.same hO (by repeat (first | (with_reducible exact Chg.refl _ _) | (with_reducible refine Chg.alloc ?_ _) | (with_reducible refine Chg.drew ?_)))) HWL.out) ⟨_, 0, none⟩ 1 1 [.int .i64 who, .string dx] (by rfl) (by rfl) (news2 (t := 36) (by repeat (first | ((with_reducible refine heap_new' _ _ _ ?_); (first | rfl | (simp; done))) | (with_reducible refine heap_drewR ?_) | (with_reducible refine heap_old ?_) | ((with_reducible refine R.grown_at hg1 ?_ ?_); rotate_left; (intro e; simp [Value.ownBlock] at e <;> omega))))) HON2.out (wl + 1) rfl _ rfl (by unfold maxLen; omega) (by omega) (Nat.le_trans hc1.size (by refine Chg.size (S := []) ?_; repeat (first | (with_reducible exact Chg.refl _ _) | (with_reducible refine Chg.alloc ?_ _) | (with_reducible refine Chg.drew ?_)))) ?_
      intro b7 c7 w7 own7 hg7 _
      have hc7 : Chg [] w4 w7 := (Chg.trans hc1 (by repeat (first | (with_reducible exact Chg.refl _ _) | (with_reducible refine Chg.alloc ?_ _) | (with_reducible refine Chg.drew ?_)))).grown hg7 (fun g hg => .inr (hO.blk g hg).1)
      refine hK.out _ _ (fun _ => ?_) ?_
      · exact HSK.out _ hc7
      try simp only [Act.put, List.setIfInBounds_toArray, List.set_cons_zero, List.set_cons_succ]
      have hS7 := HSK.out _ hc7
      refine wpL_one (i := 18) (by kernel_rfl) rfl (fun K hK => ?_)
      go_simp
      refine hK.out _ _ (fun _ => ?_) ?_
      · exact hS7
      try simp only [Act.put, List.setIfInBounds_toArray, List.set_cons_zero, List.set_cons_succ]
      refine wpL_one (i := 19) (by kernel_rfl) rfl (fun K hK => ?_)
      go_simp
      refine hK.out _ _ (fun _ => ?_) ?_
      · exact hS7
      try simp only [Act.put, List.setIfInBounds_toArray, List.set_cons_zero, List.set_cons_succ]
      refine wpL_one (i := 20) (by kernel_rfl) rfl (fun K hK => ?_)
      have d7 := hS7.2.1
      have f7 : w7.frozen? ⟨g, k * 5 + 4, none⟩ = false := (World.frozen?_of_block (w := w4) (hc7.block g HGL.out (by simp))).trans HFZ.out
      go_simp
      refine hK.out _ _ (fun h => absurd rfl h) ?_
      refine wpL_done (by kernel_rfl) ?_ _
      have HO7 := Lib.hid own7
      have HC7 := Lib.hid hc7
      clear own7 hg7 hc7 hO hg1 hc1 d7 f7 hS7
      go_wp2
      go_ret
      exact ⟨rfl, HFIN.out b7 c7 w7 HC7.out HO7.out⟩
  · have hj : joinF L m s y = (L, 6) := by unfold joinF; rw [hu]; rfl
    rw [hr.out] at hj
    injection hj with e1 e2
    subst e1; subst e2
    clear hT hat hr hu b0 b1 b2
    go_wp2
    go_ret
    exact ⟨rfl, RNext.refl H.out hcW⟩
end

end Go.Proofs.Ytopkbchjlifflaa
