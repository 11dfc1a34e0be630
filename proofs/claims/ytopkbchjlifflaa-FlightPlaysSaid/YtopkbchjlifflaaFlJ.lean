/- The walk of Copy. -/
import Derived.Test.YtopkbchjlifflaaFlI
namespace Go.Proofs.Ytopkbchjlifflaa
open Go.RowKit Go.Maps

theorem copy_nil (w : World) : Calls Try.prog 23 #[.pointer none] w fun e w' => e = .returned (.pointer none) ∧ w = w' := by
  go_enter Try.func23, Try.ntmps23
  go_wp2
  go_ret
  exact ⟨rfl, rfl⟩
theorem c4_chg {W W' : World} {p q r t : Addr} {a b c d : Value} (h : W.cell? p = some a ∧ W.cell? q = some b ∧ W.cell? r = some c ∧ W.cell? t = some d) (hc : Chg [] W W') : W'.cell? p = some a ∧ W'.cell? q = some b ∧ W'.cell? r = some c ∧ W'.cell? t = some d :=
  ⟨hc.cell h.1 (by simp), hc.cell h.2.1 (by simp), hc.cell h.2.2.1 (by simp), hc.cell h.2.2.2 (by simp)⟩
theorem FTc.slices {F : List Nat} {w : World} {tb n m sb mb : Nat} {rv : Value} {L : List Fl} {es : List Ent} {cp : Nat} {tl : List Value} (h : FTc F w tb n m L sb mb rv es cp tl) : ∀ e ∈ es, ∃ a n c, e.v = .slice a n c := by
  intro e he
  obtain ⟨i, hi, rfl⟩ := List.getElem_of_mem he
  obtain ⟨a, c, e⟩ := (h.eok i hi).ws.len
  exact ⟨a, _, c, e⟩
theorem FTc.ecells {F : List Nat} {w : World} {tb n m sb mb : Nat} {rv : Value} {L : List Fl} {es : List Ent} {cp : Nat} {tl : List Value} (h : FTc F w tb n m L sb mb rv es cp tl) : ∀ j u, (es.flatMap eV)[j]? = some u → w.cell? ((⟨sb, 0, none⟩ : Addr).add j) = some u := by
  intro j u hu
  rw [add_at, Nat.zero_add, cell_of h.ents]
  unfold eRow
  have hj : j < (es.flatMap eV).length := by
    rcases Nat.lt_or_ge j (es.flatMap eV).length with hh | hh
    · exact hh
    · rw [List.getElem?_eq_none hh] at hu; cases hu
  rw [List.getElem?_toArray, List.getElem?_append_left hj]
  exact hu
theorem cloneE_any {F : List Nat} {w : World} {tb n m sb mb : Nat} {rv : Value} {L : List Fl} {es : List Ent} {cp : Nat} {tl : List Value} (h : FTc F w tb n m L sb mb rv es cp tl) :
    Calls Try.prog 41 #[.slice (some ⟨sb, 0, none⟩) n cp] w fun e w' => ∃ g cp' tl', e = .returned (.slice (some ⟨g, 0, none⟩) n cp') ∧ w.heap.size ≤ g ∧ w'.heap[g]? = some (.cells (eRow es tl') 85 (0, 0)) ∧ Chg [] w w' := by
  have hn := h.elen
  have h1 := h.n1
  have h32 := h.n32
  refine (clone_e sb n cp es w hn.symm (by omega) h.slices h.ecells).mono ?_
  rintro e w' ⟨v', rfl, ho, hc⟩
  obtain ⟨h2, h3⟩ := ho
  rcases h3 with ⟨_, e0⟩ | ⟨g, cap, cur, e1, hb, hg, hle, _, hs, ht⟩
  · omega
  · refine ⟨g, cap, cur.toList.drop (es.length * 5), by rw [e1, hn], hb, ?_, hc⟩
    rw [hg]
    unfold eRow
    rw [← ht, List.take_append_drop]
/-- A table of which the rows of the first j slots are copied. -/
structure Cp (w wr : World) (t2 g5 m7 n m cp5 j : Nat) (rv' : Value) (L : List Fl) (es fs : List Ent) (tl5 : List Value) : Prop where
  head : wr.heap[t2]? = some (.cells #[.int .i64 (m : Nat), .slice (some ⟨g5, 0, none⟩) n cp5, rv', .map (some m7)] 68 (0, 0))
  ents : wr.heap[g5]? = some (.cells (eRow fs tl5) 85 (0, 0))
  flen : fs.length = es.length
  same : ∀ s (h : s < fs.length) (h' : s < es.length), fs[s].used = es[s].used ∧ fs[s].q = es[s].q
  rest : ∀ s (h : s < fs.length) (h' : s < es.length), j ≤ s → fs[s].v = es[s].v
  own : ∀ s (h : s < fs.length), s < j → R.OwnR 38 2 wV w.heap.size wr fs[s].v (wsF L s)
  nd : ∀ s (h : s < fs.length) t (h' : t < fs.length), s < j → t < j → s ≠ t → ∀ g, fs[s].v.ownBlock = some g → fs[t].v.ownBlock ≠ some g
  row : R.OwnR 3 1 sV w.heap.size wr rv' (slotsF L)
  map : MapQ wr m7 L
  lt : w.heap.size ≤ t2
  lg : w.heap.size ≤ g5
  lm : w.heap.size ≤ m7
  chg : Chg [] w wr
theorem Cp.step {w wr w8 : World} {t2 g5 m7 n m cp5 j : Nat} {rv' v8 : Value} {L : List Fl} {es fs : List Ent} {tl5 : List Value} (h : Cp w wr t2 g5 m7 n m cp5 j rv' L es fs tl5) (hj : j < fs.length) (hc : Chg [] wr w8) (ho : R.OwnR 38 2 wV wr.heap.size w8 v8 (wsF L j)) :
    Cp w (w8.setCell ⟨g5, j * 5 + 4, none⟩ v8) t2 g5 m7 n m cp5 (j + 1) rv' L es (fs.set j ⟨fs[j].used, fs[j].q, v8⟩) tl5 := by
  have hset := Chg.set1 w8 g5 (j * 5 + 4) v8
  have hsz := hc.size
  have hw := h.chg.size
  have ne1 : t2 ≠ g5 := blk_ne h.head h.ents (by decide)
  obtain ⟨ms, clock, hmm⟩ := h.map.map
  have ne2 : g5 ≠ m7 := map_ne h.ents hmm
  have old : ∀ s (hs : s < fs.length), s < j → ∀ g, fs[s].v.ownBlock = some g → g ≠ g5 ∧ g < wr.heap.size := by
    intro s hs hsj g hg
    obtain ⟨_, h2, c, hc'⟩ := (h.own s hs hsj).blk g hg
    exact ⟨blk_ne hc' h.ents (by decide), h2⟩
  have new : ∀ g, v8.ownBlock = some g → g ≠ g5 ∧ wr.heap.size ≤ g := by
    intro g hg
    obtain ⟨h1, _, _⟩ := ho.blk g hg
    have := lt_of_block h.ents
    exact ⟨by omega, h1⟩
  refine ⟨?_, ?_, by rw [List.length_set]; exact h.flen, ?_, ?_, ?_, ?_, ?_, ?_, h.lt, h.lg, h.lm, (h.chg.trans hc).setCell (.inr h.lg) _⟩
  · exact hset.keep (hc.keep h.head (by simp)) (by simpa using ne1)
  · rw [heap_set (hc.keep h.ents (by simp)), eRow_set hj (j := 4) (e := ⟨fs[j].used, fs[j].q, v8⟩) (by omega) rfl]
  · intro s hs h'
    have hs' : s < fs.length := by rw [List.length_set] at hs; exact hs
    by_cases e : s = j
    · subst e; rw [List.getElem_set_self]; exact h.same s hs' h'
    · rw [List.getElem_set_ne (fun h => e h.symm)]; exact h.same s hs' h'
  · intro s hs h' hjs
    have hs' : s < fs.length := by rw [List.length_set] at hs; exact hs
    rw [List.getElem_set_ne (by omega)]
    exact h.rest s hs' h' (by omega)
  · intro s hs hsj
    have hs' : s < fs.length := by rw [List.length_set] at hs; exact hs
    by_cases e : s = j
    · subst e
      rw [List.getElem_set_self]
      refine (ho.low (by omega)).chg hset fun g hg => ?_
      simpa using (new g hg).1
    · rw [List.getElem_set_ne (fun h => e h.symm)]
      refine ((h.own s hs' (by omega)).same hc).chg hset fun g hg => ?_
      simpa using (old s hs' (by omega) g hg).1
  · intro s hs t ht hsj htj hst g hg hg2
    have hs' : s < fs.length := by rw [List.length_set] at hs; exact hs
    have ht' : t < fs.length := by rw [List.length_set] at ht; exact ht
    by_cases e : s = j
    · subst e
      rw [List.getElem_set_self] at hg
      rw [List.getElem_set_ne hst] at hg2
      have h1 := (new g hg).2
      have h2 := (old t ht' (by omega) g hg2).2
      omega
    · rw [List.getElem_set_ne (fun h => e h.symm)] at hg
      by_cases e2 : t = j
      · subst e2
        rw [List.getElem_set_self] at hg2
        have h1 := (new g hg2).2
        have h2 := (old s hs' (by omega) g hg).2
        omega
      · rw [List.getElem_set_ne (fun h => e2 h.symm)] at hg2
        exact h.nd s hs' t ht' (by omega) (by omega) hst g hg hg2
  · refine (h.row.same hc).chg hset fun g hg => ?_
    obtain ⟨_, _, c, hc'⟩ := h.row.blk g hg
    have := blk_ne hc' h.ents (by decide)
    simpa using this
  · exact (h.map.chg hc (by simp)).chg hset (by simpa using Ne.symm ne2)
theorem Cp.all {F : List Nat} {w wr : World} {tb sb mb cp : Nat} {rv : Value} {tl : List Value} {t2 g5 m7 n m cp5 : Nat} {rv' : Value} {L : List Fl} {es fs : List Ent} {tl5 : List Value} (h : Cp w wr t2 g5 m7 n m cp5 n rv' L es fs tl5) (hT : FTc F w tb n m L sb mb rv es cp tl) :
    ∃ F', FT F' wr t2 n m L ∧ ∀ y ∈ F', w.heap.size ≤ y := by
  have hl : fs.length = n := h.flen.trans hT.elen
  refine ⟨t2 :: g5 :: m7 :: (blkL rv' ++ fs.flatMap fun e => blkL e.v), ⟨g5, m7, rv', fs, cp5, tl5, h.head, h.ents, hl, ?_, ?_, h.row.low (Nat.zero_le _), h.map, hT.ok, hT.n1, hT.n32, hT.m1, hT.m16, by simp, by simp, by simp, ?_, ?_, ?_⟩, ?_⟩
  · intro s hs
    have hs' : s < es.length := by rw [← h.flen]; exact hs
    obtain ⟨e1, e2⟩ := h.same s hs hs'
    have k := hT.eok s hs'
    exact ⟨e1.trans k.used, e2.trans k.q, (h.own s hs (by omega)).low (Nat.zero_le _)⟩
  · exact fun s hs t ht hst g => h.nd s hs t ht (by omega) (by omega) hst g
  · intro g hg
    have : g ∈ blkL rv' := mem_blkL.2 hg
    simp [this]
  · intro s hs g hg
    have : g ∈ fs.flatMap fun e => blkL e.v := List.mem_flatMap.2 ⟨fs[s], List.getElem_mem hs, mem_blkL.2 hg⟩
    simp only [List.mem_cons, List.mem_append]
    exact .inr (.inr (.inr (.inr this)))
  · intro y hy
    simp only [List.mem_cons, List.mem_append] at hy
    rcases hy with e | e | e | e | e
    · rw [e]; exact lt_of_block h.head
    · rw [e]; exact lt_of_block h.ents
    · rw [e]; exact h.map.lt
    · exact (h.row.blk y (mem_blkL.1 e)).2.1
    · obtain ⟨x, hx, hy⟩ := List.mem_flatMap.1 e
      obtain ⟨s, hs, rfl⟩ := List.getElem_of_mem hx
      exact ((h.own s hs (by omega)).blk y (mem_blkL.1 hy)).2.1
  · intro y hy
    simp only [List.mem_cons, List.mem_append] at hy
    rcases hy with e | e | e | e | e
    · rw [e]; exact h.lt
    · rw [e]; exact h.lg
    · rw [e]; exact h.lm
    · exact (h.row.blk y (mem_blkL.1 e)).1
    · obtain ⟨x, hx, hy⟩ := List.mem_flatMap.1 e
      obtain ⟨s, hs, rfl⟩ := List.getElem_of_mem hx
      exact ((h.own s hs (by omega)).blk y (mem_blkL.1 hy)).1
def CpR (w : World) (t2 g5 m7 n m cp5 : Nat) (rv' : Value) (L : List Fl) (es : List Ent) (tl5 : List Value) (v : Value) (wr : World) : Prop :=
  ∃ (j : Nat) (fs : List Ent), j ≤ n ∧ v = .int .i64 (j : Nat) ∧ Cp w wr t2 g5 m7 n m cp5 j rv' L es fs tl5
section
variable (F : List Nat) (tb n m : Nat) (L : List Fl) (w : World)
set_option maxRecDepth 100000 in
set_option maxHeartbeats 4000000 in
theorem copy_any (h : FT F w tb n m L) :
    Calls Try.prog 23 #[.pointer (some ⟨tb, 0, none⟩)] w fun e w' => ∃ tb' F', e = .returned (.pointer (some ⟨tb', 0, none⟩)) ∧ FT F' w' tb' n m L ∧ (∀ y ∈ F', w.heap.size ≤ y) ∧ Chg [] w w' := by
  obtain ⟨sb, mb, rv, es, cp, tl, hT⟩ := h
  obtain ⟨ra, rc, hrv⟩ := hT.row.len
  obtain ⟨ln, hln⟩ : ∃ ln, ln = (slotsF L).length := ⟨_, rfl⟩
  rw [← hln] at hrv
  have c0 : w.cell? ⟨tb, 0, none⟩ = some (.int .i64 (m : Nat)) := cell_of hT.head
  have c1 : w.cell? ⟨tb, 1, none⟩ = some (.slice (some ⟨sb, 0, none⟩) n cp) := cell_of hT.head
  have c2 : w.cell? ⟨tb, 2, none⟩ = some rv := cell_of hT.head
  have c3 : w.cell? ⟨tb, 3, none⟩ = some (.map (some mb)) := cell_of hT.head
  rw [hrv] at c2
  have HT := Lib.hid hT
  have HRV := Lib.hid hrv
  have HLN := Lib.hid hln
  clear hT hrv hln
  go_enter Try.func23, Try.ntmps23
  have S0 : Hid (w.cell? ⟨tb, 0, none⟩ = some (.int .i64 (m : Nat)) ∧ w.cell? ⟨tb, 1, none⟩ = some (.slice (some ⟨sb, 0, none⟩) n cp) ∧ w.cell? ⟨tb, 2, none⟩ = some (.slice ra ln rc) ∧ w.cell? ⟨tb, 3, none⟩ = some (.map (some mb))) := Lib.hid ⟨c0, c1, c2, c3⟩
  have hl32 : (slotsF L).length ≤ 100000 := by have := HT.out.ok.len; have := HT.out.n32; simp [slotsF]; omega
  have HL32 := Lib.hid hl32
  clear hl32
  go_wp2_with fail
  go_region_held3 (fun W => W.cell? ⟨tb, 0, none⟩ = some (.int .i64 (m : Nat)) ∧ W.cell? ⟨tb, 1, none⟩ = some (.slice (some ⟨sb, 0, none⟩) n cp) ∧ W.cell? ⟨tb, 2, none⟩ = some (.slice ra ln rc) ∧ W.cell? ⟨tb, 3, none⟩ = some (.map (some mb))) (first | (with_reducible exact S7.out) | (with_reducible exact S6.out) | (with_reducible exact S5.out) | exact S0.out | exact c4_chg S7.out ((Chg.refl _ _).alloc _)) (first | (go_at_call 41; refine (cloneE_any (HT.out.same (Chg.refl [] w).drew)).mono ?_; rintro e9 w5 ⟨g5, cp5, tl5, rfl, hg5, hh5, hc5⟩; replace hc5 := hc5.undrew; have S5 := Lib.hid (c4_chg S0.out hc5)) | (go_at_call 40; refine (clone_s 0 _ (slotsF L) w5 ?_ ?_).mono ?_; (rw [← HRV.out]; exact HT.out.row.same hc5); exact HL32.out; rintro e9 w6 ⟨v6, rfl, ho6, hc6⟩; obtain ⟨qa, qc, rfl⟩ := ho6.len; have S6 := Lib.hid (c4_chg S5.out hc6)) | (go_at_call 42; refine (cloneQ_any mb L w6 ?_).mono ?_; exact HT.out.map.chg (hc5.trans hc6) (by simp); rintro e9 w7 ⟨m7, rfl, hm7, hM7, hc7⟩; have S7 := Lib.hid (c4_chg S6.out hc7)))
  have h7 : Chg [] w w7 := (hc5.trans hc6).trans hc7
  have hw5 := hc5.size
  have hg5' : w.heap.size ≤ g5 := hg5
  have hw6 := hc6.size
  have hw7 := hc7.size
  obtain ⟨t2, ht2⟩ : ∃ t2, t2 = w7.heap.size := ⟨_, rfl⟩
  obtain ⟨sn, hsn⟩ : ∃ sn, sn = (slotsF L).length := ⟨_, rfl⟩
  rw [← hsn] at ho6 ⊢
  have hcp : Cp w (w7.alloc (.cells #[.int .i64 (m : Nat), .slice (some ⟨g5, 0, none⟩) n cp5, .slice qa sn qc, .map (some m7)] 68)) t2 g5 m7 n m cp5 0 (.slice qa sn qc) L es es tl5 :=
    ⟨heap_new' _ _ _ ht2, heap_old (hc7.keep (hc6.keep hh5 (by simp)) (by simp)), rfl, fun s h h' => ⟨rfl, rfl⟩, fun s h h' _ => rfl, fun s h hs => absurd hs (Nat.not_lt_zero _), fun s h t h' hs => absurd hs (Nat.not_lt_zero _), ((ho6.low (by omega)).same hc7).same ((Chg.refl _ _).alloc _), hM7.chg ((Chg.refl [] _).alloc _) (by simp), by omega, by omega, by omega, h7.alloc _⟩
  rw [← ht2]
  refine post_abs ?_
  intro wN hwN
  rw [← hwN] at hcp
  have kN : wN.cell? ⟨t2, 1, none⟩ = some (.slice (some ⟨g5, 0, none⟩) n cp5) := cell_of hcp.head
  have HCP := Lib.hid hcp
  have HSN := Lib.hid hsn
  clear hwN hcp hh5 ho6 hM7 ht2 hsn S0 S5 S6 S7 c0 c1 c2 c3 hc5 hc6 hc7 h7
  have hn32 := HT.out.n32
  have hn0 := HT.out.elen
  go_wp2_with fail
  go_loopw [33] (CpR w t2 g5 m7 n m cp5 (.slice qa sn qc) L es tl5) (fun v _ => n - (intOf v).toNat)
  case atStart => exact ⟨0, es, Nat.zero_le _, rfl, HCP.out⟩
  case round =>
    clear HCP kN
    obtain ⟨j, fs, hj, rfl, hcp⟩ := hrel
    have hfl := hcp.flen
    have k1 : wr.cell? ⟨t2, 1, none⟩ = some (.slice (some ⟨g5, 0, none⟩) n cp5) := cell_of hcp.head
    by_cases hlt : j < n
    · have hjf : j < fs.length := by omega
      have hje : j < es.length := by omega
      obtain ⟨va, vc, hva⟩ := (HT.out.eok j hje).ws.len
      have k4 : wr.cell? ⟨g5, j * 5 + 4, none⟩ = some es[j].v := by
        rw [cell_of hcp.ents]
        exact eRow_get hjf (j := 4) (by rw [← hcp.rest j hjf hje (Nat.le_refl _)]; rfl)
      have hro : R.OwnR 38 2 wV 0 wr es[j].v (wsF L j) := (HT.out.eok j hje).ws.same hcp.chg
      have hwl : (wsF L j).length ≤ 100000 := by
        have h16 := HT.out.m16
        cases hg : getF L j with
        | none => unfold wsF; rw [hg]; exact Nat.zero_le _
        | some f => have := HT.out.ok.wait f (getF_some hg).1; unfold wsF; rw [hg]; simp; omega
      obtain ⟨wl, hwl2⟩ : ∃ wl, wl = (wsF L j).length := ⟨_, rfl⟩
      rw [← hwl2] at hva
      have f4 : ∀ i, wr.frozen? ⟨g5, i, none⟩ = false := fun i => free_of hcp.ents
      have hcl : ∀ W, Chg [] wr W → Calls Try.prog 37 #[.slice va wl vc] W fun e w' => ∃ a c, e = .returned (.slice a wl c) ∧ R.OwnR 38 2 wV wr.heap.size w' (.slice a wl c) (wsF L j) ∧ Chg [] W w' := by
        intro W hcW
        rw [hva] at hro
        refine (clone_w 0 _ (wsF L j) W (hro.same hcW) hwl).mono ?_
        rintro e w' ⟨v', rfl, ho, hc⟩
        obtain ⟨a, c, rfl⟩ := ho.len
        rw [← hwl2] at ho ⊢
        exact ⟨a, c, rfl, ho.low hcW.size, hc⟩
      rw [hva] at k4
      have HCP := Lib.hid hcp
      clear hcp hro hva hwl hwl2 hje hfl
      go_wp2_with fail
      go_region_with ((go_at_call 37; refine (hcl _ ?_).mono ?_; exact (Chg.refl _ _).drew; rintro e9 w8 ⟨xa, xc, rfl, ho8, hc8⟩; replace hc8 := hc8.undrew; have k8 := hc8.cell k1 (by simp); have k9 := hc8.cell k4 (by simp); have f8 : ∀ i, w8.frozen? ⟨g5, i, none⟩ = false := fun i => free_of (hc8.keep HCP.out.ents (by simp))))
      all_goals
        have HO8 := Lib.hid ho8
        have HC8 := Lib.hid hc8
        clear ho8 hc8
        go_wp2
        go_roundw
        case rel => exact ⟨j + 1, _, by omega, by go_num, HCP.out.step hjf HC8.out HO8.out⟩
        case measure => simp [intOf] <;> omega
    · obtain rfl : j = n := by omega
      obtain ⟨F', hF', hlo⟩ := hcp.all HT.out
      have hck := hcp.chg
      have HF := Lib.hid hF'
      have HLO := Lib.hid hlo
      clear hcp hF' hlo
      go_wp2
      go_ret
      exact ⟨t2, F', rfl, HF.out, HLO.out, hck⟩
end

end Go.Proofs.Ytopkbchjlifflaa
