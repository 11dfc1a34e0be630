/- The walk of End. -/
import Derived.Test.YtopkbchjlifflaaFlG
namespace Go.Proofs.Ytopkbchjlifflaa
open Go.RowKit Go.Maps

theorem end_step {F : List Nat} {w4 w6 w7 w8 w9 : World} {tb n m sb mb i : Nat} {rv rv' : Value} {ra : Option Addr} {rc ln : Nat} {L : List Fl} {es : List Ent} {cp : Nat} {tl : List Value} (h : FTc F w4 tb n m L sb mb rv es cp tl) (hi : i < es.length) (hu : usedF L i = true) (hve : es[i].v = .slice ra ln rc)
    (c46 : Chg [mb] w4 w6) (hm6 : MapQ w6 mb (endF L i)) (c67 : Chg (blkL es[i].v) w6 w7) (hr7 : R.OwnR 38 2 wV 0 w7 (.slice ra 0 rc) []) (c78 : Chg [sb] w7 w8) (he8 : w8.heap[sb]? = some (.cells (eRow (es.set i ⟨false, q0, .slice ra 0 rc⟩) tl) 85 (0, 0)))
    (c89 : Chg (blkL rv) w8 w9) (hv : rv'.ownBlock = rv.ownBlock) (hr9 : R.OwnR 3 1 sV 0 w9 rv' (slotsF (endF L i))) :
    FTc F (w9.setCell ⟨tb, 2, none⟩ rv') tb n m (endF L i) sb mb rv' (es.set i ⟨false, q0, .slice ra 0 rc⟩) cp tl ∧ Chg F w4 (w9.setCell ⟨tb, 2, none⟩ rv') := by
  have ap := h.apart
  have s46 := c46.size
  have s67 := c67.size
  have s78 := c78.size
  have s89 := c89.size
  have keep9 : ∀ k, k < w4.heap.size → k ≠ mb → es[i].v.ownBlock ≠ some k → k ≠ sb → rv.ownBlock ≠ some k → w9.heap[k]? = w4.heap[k]? := by
    intro k hk h1 h2 h3 h4
    rw [c89.block k (by omega) (fun e => h4 (mem_blkL.1 e)), c78.block k (by omega) (by simpa using h3), c67.block k (by omega) (fun e => h2 (mem_blkL.1 e)), c46.block k hk (by simpa using h1)]
  have hset := Chg.set1 w9 tb 2 rv'
  have own' : ∀ k, (Value.slice ra 0 rc).ownBlock = some k → es[i].v.ownBlock = some k := by
    intro k hk
    rw [hve]
    cases ra with
    | none => simp [Value.ownBlock] at hk
    | some a => simpa [Value.ownBlock] using hk
  refine ⟨h.turn hi (s := i) (e' := ⟨false, q0, .slice ra 0 rc⟩) ?_ ?_ ?_ ?_ ?_ ?_ ?_ ?_ ?_ (fun y hy => hy) ?_ ?_ ?_, ?_⟩
  · rw [heap_set (by rw [keep9 tb (h.flt tb h.ftb) ap.tm (fun e => ap.vt i hi tb e rfl) ap.ts (fun e => ap.rt tb e rfl)]; exact h.head)]
    rfl
  · rw [heap_set_other _ (Ne.symm ap.ts), c89.block sb (by have := h.flt sb h.fsb; omega) (fun e => ap.rs sb (mem_blkL.1 e) rfl)]
    exact he8
  · intro t ht hts k hk
    rw [heap_set_other _ (ap.vt t ht k hk)]
    exact keep9 k (h.flt k (h.fes t ht k hk)) (ap.vm t ht k hk) (fun e => h.nd i hi t ht (fun e => hts e.symm) k e hk) (ap.vs t ht k hk) (ap.vr t ht k hk)
  · intro t ht
    refine ⟨by rw [endF_used]; simp [ht], ?_, ?_⟩
    · unfold qsF; rw [endF_get, if_neg ht]
    · unfold wsF; rw [endF_get, if_neg ht]
  · refine ⟨by rw [endF_used]; simp, by unfold qsF; rw [endF_get, if_pos rfl]; rfl, ?_⟩
    have e1 : wsF (endF L i) i = [] := by unfold wsF; rw [endF_get, if_pos rfl]; rfl
    rw [e1]
    refine hr7.keep fun k hk => ?_
    have hk' := own' k hk
    have hklt := h.flt k (h.fes i hi k hk')
    rw [heap_set_other _ (ap.vt i hi k hk'), c89.block k (by omega) (fun e => ap.vr i hi k hk' (mem_blkL.1 e)), c78.block k (by omega) (by simpa using ap.vs i hi k hk')]
  · exact fun k hk => .inl (own' k hk)
  · refine hr9.chg hset fun k hk => ?_
    have := ap.rt k (by rw [← hv]; exact hk)
    simpa using this
  · refine hm6.keep ?_
    have hml := h.flt mb h.fmb
    rw [heap_set_other _ (Ne.symm ap.tm), c89.block mb (by omega) (fun e => ap.rm mb (mem_blkL.1 e) rfl), c78.block mb (by omega) (by simpa using Ne.symm ap.sm), c67.block mb (by omega) (fun e => ap.vm i hi mb (mem_blkL.1 e) rfl)]
  · exact h.ok.fin i
  · exact fun k hk => h.frv k (by rw [← hv]; exact hk)
  · exact fun k hk => h.fes i hi k (own' k hk)
  · intro y hy
    rw [World.size_setCell]
    have := h.flt y hy
    omega
  · have k1 : Chg F w4 w6 := c46.mono (by intro x hx; simp at hx; subst hx; exact h.fmb)
    have k2 : Chg F w4 w7 := k1.trans (c67.mono (fun x hx => h.fes i hi x (mem_blkL.1 hx)))
    have k3 : Chg F w4 w8 := k2.trans (c78.mono (by intro x hx; simp at hx; subst hx; exact h.fsb))
    have k4 : Chg F w4 w9 := k3.trans (c89.mono (fun x hx => h.frv x (mem_blkL.1 hx)))
    exact k4.setCell (.inl h.ftb) _
theorem ents_end {w w8 : World} {sb j : Nat} {v : Value} {es : List Ent} {tl : List Value} (h : w.heap[sb]? = some (.cells (eRow es tl) 85 (0, 0))) (hj : j < es.length)
    (h8 : w8 = (((((w.setCell ⟨sb, j * 5, none⟩ (.bool false)).setCell ⟨sb, j * 5 + 1, none⟩ (.string ⟨#[]⟩)).setCell ⟨sb, j * 5 + 1 + 1, none⟩ (.int .u16 0)).setCell ⟨sb, j * 5 + 1 + 2, none⟩ (.int .u16 0)).setCell ⟨sb, j * 5 + 4, none⟩ v).drew) :
    Chg [sb] w w8 ∧ w8.heap[sb]? = some (.cells (eRow (es.set j ⟨false, q0, v⟩) tl) 85 (0, 0)) := by
  refine ⟨?_, ?_⟩
  · rw [h8]
    exact ((((((Chg.refl _ w).setCell (.inl (by simp)) _).setCell (.inl (by simp)) _).setCell (.inl (by simp)) _).setCell (.inl (by simp)) _).setCell (.inl (by simp)) _).drew
  · have l : ∀ e : Ent, j < (es.set j e).length := fun e => by rw [List.length_set]; exact hj
    have k0 : (w.setCell ⟨sb, j * 5, none⟩ (.bool false)).heap[sb]? = some (.cells (eRow (es.set j ⟨false, es[j].q, es[j].v⟩) tl) 85 (0, 0)) := by
      rw [heap_set h, ← eRow_set hj (j := 0) (u := .bool false) (e := ⟨false, es[j].q, es[j].v⟩) (by omega) rfl]
      rfl
    have k1 : ((w.setCell ⟨sb, j * 5, none⟩ (.bool false)).setCell ⟨sb, j * 5 + 1, none⟩ (.string ⟨#[]⟩)).heap[sb]? = some (.cells (eRow (es.set j ⟨false, ⟨[], es[j].q.ty, es[j].q.cl⟩, es[j].v⟩) tl) 85 (0, 0)) := by
      rw [heap_set k0, eRow_set (l _) (j := 1) (e := ⟨false, ⟨[], es[j].q.ty, es[j].q.cl⟩, es[j].v⟩) (by omega) (by rw [List.getElem_set_self]; rfl), List.set_set]
    have k2 : (((w.setCell ⟨sb, j * 5, none⟩ (.bool false)).setCell ⟨sb, j * 5 + 1, none⟩ (.string ⟨#[]⟩)).setCell ⟨sb, j * 5 + 2, none⟩ (.int .u16 0)).heap[sb]? = some (.cells (eRow (es.set j ⟨false, ⟨[], 0, es[j].q.cl⟩, es[j].v⟩) tl) 85 (0, 0)) := by
      rw [heap_set k1, eRow_set (l _) (j := 2) (e := ⟨false, ⟨[], 0, es[j].q.cl⟩, es[j].v⟩) (by omega) (by rw [List.getElem_set_self]; rfl), List.set_set]
    have k3 : ((((w.setCell ⟨sb, j * 5, none⟩ (.bool false)).setCell ⟨sb, j * 5 + 1, none⟩ (.string ⟨#[]⟩)).setCell ⟨sb, j * 5 + 2, none⟩ (.int .u16 0)).setCell ⟨sb, j * 5 + 3, none⟩ (.int .u16 0)).heap[sb]? = some (.cells (eRow (es.set j ⟨false, q0, es[j].v⟩) tl) 85 (0, 0)) := by
      rw [heap_set k2, eRow_set (l _) (j := 3) (e := ⟨false, q0, es[j].v⟩) (by omega) (by rw [List.getElem_set_self]; rfl), List.set_set]
    rw [h8]
    show ((_ : World).setCell ⟨sb, j * 5 + 4, none⟩ v).heap[sb]? = _
    rw [heap_set k3, eRow_set (l _) (j := 4) (e := ⟨false, q0, v⟩) (by omega) (by rw [List.getElem_set_self]; rfl), List.set_set]
set_option maxRecDepth 100000 in
theorem slice0 {w0 : World} {ra : Option Addr} {ln rc n : Nat} {xs : List Value} (h : w0.ownsRow 0 38 2 (.slice ra ln rc) n xs) (w : World) : (Instr.sliceAt 42 (.slice ra ln rc) none (some (.int .i64 0)) none).run Try.prog w = .ok (.slice ra 0 rc) w := by
  have hz : ∀ w, (sizeOf 38).run Try.prog w = .ok 2 w := fun w => by kernel_rfl
  obtain ⟨_, h⟩ := h
  rcases h with ⟨e, _⟩ | ⟨g, cap, cur, e, _⟩
  · injection e with e1 e2 e3
    subst e1; subst e3
    simp [Instr.sliceAt, Instr.slice, Instr.sliceBounds, Instr.sliceBound, run_underlying Try.underlying42, hz, asIntOf]
  · injection e with e1 e2 e3
    subst e1; subst e3
    simp [Instr.sliceAt, Instr.slice, Instr.sliceBounds, Instr.sliceBound, run_underlying Try.underlying42, hz, asIntOf, add_at]
theorem end_no (p : Option Addr) (s : Int) (w : World) (hp : p ≠ none) (hhas : Calls Try.prog 36 #[.pointer p, .int .i64 s] w fun e w2 => e = .returned (.bool false) ∧ w = w2) :
    Calls Try.prog 15 #[.pointer p, .int .i64 s] w fun e w' => e = .returned (.tuple #[.slice none 0 0, .int .i64 6]) ∧ w = w' := by
  cases p with
  | none => exact absurd rfl hp
  | some p =>
    go_enter Try.func15, Try.ntmps15
    go_wp2_with fail
    refine hhas.mono ?_
    rintro e w1 ⟨rfl, rfl⟩
    go_wp2
    go_ret2
    exact ⟨rfl, rfl⟩
theorem end_nil (s : Int) (w : World) : Calls Try.prog 15 #[.pointer none, .int .i64 s] w fun e w' => e = .returned (.tuple #[.slice none 0 0, .int .i64 2]) ∧ w = w' := by
  go_enter Try.func15, Try.ntmps15
  go_wp2
  go_ret2
  exact ⟨rfl, rfl⟩
theorem post_abs {Q : Exit → Act → World → Prop} {e : Exit} {a : Act} {w : World} (h : ∀ w', w' = w → Q e a w') : Q e a w := h w rfl
section
variable (F : List Nat) (tb n m : Nat) (L : List Fl) (w : World)
set_option maxRecDepth 100000 in
set_option maxHeartbeats 4000000 in
theorem end_yes (i : Nat) (h : FT F w tb n m L) (hu : usedF L i = true) :
    Calls Try.prog 15 #[.pointer (some ⟨tb, 0, none⟩), .int .i64 (i : Nat)] w fun r w' => ∃ v, r = .returned (.tuple #[v, .int .i64 0]) ∧ R.OwnR 38 2 wV w.heap.size w' v (wsF L i) ∧ FT F w' tb n m (endF L i) ∧ Chg F w w' := by
  have hhas := has_any F tb n m L w i true h (Lib.hid (by unfold useF; simp [hu]))
  have hin := used_lt h hu
  obtain ⟨f, hf, hfs⟩ := usedF_iff.1 hu
  obtain ⟨sb, mb, rv, es, cp, tl, hT⟩ := h
  have hil : i < es.length := by rw [hT.elen]; exact hin
  have h32 := hT.n32
  have h16 := hT.m16
  have hgf : getF L i = some f := by rw [← hfs]; exact getF_of hT.ok.slots hf
  have hW4 : (wsF L i).length ≤ m := by unfold wsF; rw [hgf]; exact hT.ok.wait f hf
  obtain ⟨v, hv⟩ : ∃ v, v = es[i].v := ⟨_, rfl⟩
  have hrow := (hT.eok i hil).ws
  rw [← hv] at hrow
  obtain ⟨ra, rc, hrv⟩ := hrow.len
  obtain ⟨ln, hln⟩ : ∃ ln, ln = (wsF L i).length := ⟨_, rfl⟩
  rw [← hln] at hrv hW4
  obtain ⟨d0, d1, d2, d3, d4⟩ := hT.cells5 hil
  have hqf : qsF L i = f.q := by unfold qsF; rw [hgf]; rfl
  rw [← hv, hrv] at d4
  rw [hqf] at d1 d2 d3
  rw [hu] at d0
  have k0 : w.cell? ⟨tb, 1, none⟩ = some (.slice (some ⟨sb, 0, none⟩) n cp) := cell_of hT.head
  have HT := Lib.hid hT
  have HROW := Lib.hid hrow
  have HV := Lib.hid hv
  have HRV := Lib.hid hrv
  have HLN := Lib.hid hln
  have HU := Lib.hid hu
  have HF := Lib.hid hf
  have HFS := Lib.hid hfs
  clear hT hrow hv hrv hln hu hf hfs hgf hqf
  go_enter Try.func15, Try.ntmps15
  go_wp2_with fail
  refine hhas.mono ?_
  rintro e w1 ⟨rfl, rfl⟩
  clear hhas
  go_wp2_with fail
  refine (clone_w 0 _ (wsF L i) w (by rw [← HRV.out]; exact HROW.out) (by rw [← HLN.out]; omega)).mono ?_
  rintro e w5 ⟨v5, rfl, ho5, hc5⟩
  have hT5 := HT.out.same hc5
  obtain ⟨d0, d1, d2, d3, d4⟩ := hT5.cells5 hil
  rw [← HV.out, HRV.out] at d4
  have k3 : w5.cell? ⟨tb, 3, none⟩ = some (.map (some mb)) := cell_of hT5.head
  have hap := HT.out.apart
  have hq := HT.out.ok.okQ f HF.out
  obtain ⟨w6, hdel, hm6, c56⟩ := MapQ.fin (w := w5.drew) (hT5.map) HT.out.ok.okQ HT.out.ok.slots HT.out.ok.qs HF.out 0
  replace c56 : Chg [mb] w5 w6 := c56.undrew
  rw [HFS.out] at hm6
  unfold qA at hdel
  have hqf : qsF L i = f.q := by unfold qsF; rw [← HFS.out, getF_of HT.out.ok.slots HF.out]; rfl
  rw [hqf] at d1 d2 d3
  rw [HU.out] at d0
  have e4 : w6.cell? ⟨sb, i * 5 + 4, none⟩ = some (.slice ra ln rc) := c56.cell d4 (by simp [hap.sm])
  have hro6 : R.OwnR 38 2 wV 0 w6 (.slice ra ln rc) (wsF L i) := by
    have := (hT5.eok i hil).ws
    rw [← HV.out, HRV.out] at this
    refine this.chg c56 fun g hg => ?_
    have := hap.vm i hil g (by rw [← HV.out, HRV.out]; exact hg)
    simpa using this
  obtain ⟨w7, hclr, hr7, c67⟩ := clear_ws hro6 HLN.out 0
  have c57 : Chg (mb :: blkL (.slice ra ln rc)) w5 w7 := (c56.mono (by simp)).trans (c67.mono (by intro x hx; exact List.mem_cons_of_mem _ hx))
  have hns : sb ∉ mb :: blkL (.slice ra ln rc) := by
    intro hh
    rcases List.mem_cons.1 hh with e | e
    · exact hap.sm e
    · exact hap.vs i hil sb (by rw [← HV.out, HRV.out]; exact mem_blkL.1 e) rfl
  have hnt : tb ∉ mb :: blkL (.slice ra ln rc) := by
    intro hh
    rcases List.mem_cons.1 hh with e | e
    · exact hap.tm e
    · exact hap.vt i hil tb (by rw [← HV.out, HRV.out]; exact mem_blkL.1 e) rfl
  have b7 := c57.keep hT5.ents hns
  have x0 := c57.cell d0 hns
  have x1 := c57.cell d1 hns
  have x2 := c57.cell d2 hns
  have x3 := c57.cell d3 hns
  have x4 := c57.cell d4 hns
  have x5 : w7.cell? ⟨tb, 2, none⟩ = some rv := c57.cell (cell_of hT5.head) hnt
  have xf : ∀ j, w7.frozen? ⟨sb, j, none⟩ = false := fun j => free_of b7
  have HC56 := Lib.hid c56
  have HC67 := Lib.hid c67
  have HC57 := Lib.hid c57
  have HM6 := Lib.hid hm6
  have HR7 := Lib.hid hr7
  have HB7 := Lib.hid b7
  have HT5 := Lib.hid hT5
  have HO5 := Lib.hid ho5
  have HC5 := Lib.hid hc5
  clear c56 c67 c57 hm6 hr7 b7 hT5 ho5 hc5 hro6 hqf k0 hq
  go_wp2_with fail
  apply wp_one
  case h =>
    go_region_with (fail)
    all_goals exact ⟨rfl, rfl⟩
  case k =>
    clear hdel
    have hsl := slice0 (w0 := w) (ra := ra) (ln := ln) (rc := rc) (by have := HROW.out; rw [HRV.out] at this; exact this)
    go_wp2_with fail
    apply wp_one
    case h =>
      go_region_with (fail)
      all_goals exact ⟨rfl, rfl⟩
    case k =>
      refine post_abs ?_
      intro w8 hw8
      obtain ⟨c78, he8⟩ := ents_end HB7.out hil hw8
      have y5 : w8.cell? ⟨tb, 2, none⟩ = some rv := c78.cell x5 (by simp [hap.ts])
      have y6 : w8.frozen? ⟨tb, 2, none⟩ = false := free_of (c78.keep (HC57.out.keep HT5.out.head hnt) (by simp [hap.ts]))
      have HC78 := Lib.hid c78
      have HE8 := Lib.hid he8
      clear hw8 x0 x1 x2 x3 x4 x5 xf c78 he8 hsl
      have hsl32 : (slotsF L).length ≤ 32 := by have := HT.out.ok.len; simp [slotsF]; omega
      obtain ⟨k, hk, hki⟩ := List.getElem_of_mem (show i ∈ slotsF L from List.mem_map.2 ⟨f, HF.out, HFS.out⟩)
      have hkne : ∀ j (hj : j < k), (slotsF L)[j]'(by omega) ≠ i := by
        intro j hj e
        have := (List.getElem_inj HT.out.ok.slots).1 (e.trans hki.symm)
        omega
      have hk32 : k < 32 := by omega
      have hrow8 : R.OwnR 3 1 sV 0 w8 rv (slotsF L) := by
        refine (HT5.out.row.chg HC57.out fun g hg hh => ?_).chg HC78.out (fun g hg => by simpa using hap.rs g hg)
        rcases List.mem_cons.1 hh with e | e
        · exact hap.rm g hg e
        · exact hap.vr i hil g (by rw [← HV.out, HRV.out]; exact mem_blkL.1 e) hg
      have hcut : (slotsF L).take k ++ (slotsF L).drop (k + 1) = slotsF (endF L i) := by rw [endF_slots, nodup_cut _ HT.out.ok.slots k hk, hki]
      have hidx := index_any 0 rv (slotsF L) i k w8 hrow8 (by omega) hk hki hkne
      have hdlt : ∀ W, Chg [] w8 W → Calls Try.prog 39 #[rv, .int .i64 (k : Nat), .int .i64 ((k : Int) + 1)] W fun e w' => ∃ v', e = .returned v' ∧ v'.ownBlock = rv.ownBlock ∧ R.OwnR 3 1 sV 0 w' v' (slotsF (endF L i)) ∧ Chg (blkL rv) W w' := by
        intro W hcW
        have := delete_any 0 rv (slotsF L) k W (hrow8.same hcW) hk
        rw [hcut] at this
        exact this
      clear hrow8 hki hkne hcut hk
      go_wp2_with fail
      refine hidx.mono ?_
      rintro e w9 ⟨rfl, rfl⟩
      clear hidx
      go_wp2_with fail
      refine (hdlt w8 (Chg.refl _ _)).mono ?_
      rintro e w9 ⟨v9, rfl, hv9, hr9, c89⟩
      obtain ⟨qa, qc, rfl⟩ := hr9.len
      obtain ⟨qn, hqn⟩ : ∃ qn, qn = (slotsF (endF L i)).length := ⟨_, rfl⟩
      rw [← hqn] at hv9 hr9 ⊢
      have HQN := Lib.hid hqn
      clear hqn
      have hntr : tb ∉ blkL rv := fun hh => hap.rt tb (mem_blkL.1 hh) rfl
      have z5 : w9.cell? ⟨tb, 2, none⟩ = some rv := c89.cell y5 hntr
      have z6 : w9.frozen? ⟨tb, 2, none⟩ = false := free_of (c89.keep (HC78.out.keep (HC57.out.keep HT5.out.head hnt) (by simp [hap.ts])) hntr)
      have HC89 := Lib.hid c89
      have HR9 := Lib.hid hr9
      have HV9 := Lib.hid hv9
      clear hdlt y5 y6 c89 hr9 hv9 hntr
      go_wp2
      go_ret2
      have hve : es[i].v = .slice ra ln rc := by rw [← HV.out]; exact HRV.out
      obtain ⟨hFT, hCF⟩ := end_step (ln := ln) HT5.out hil HU.out hve HC56.out HM6.out (by rw [hve]; exact HC67.out) HR7.out HC78.out HE8.out HC89.out HV9.out HR9.out
      refine ⟨v5, rfl, ?_, ⟨sb, mb, .slice qa qn qc, _, cp, tl, hFT⟩, (HC5.out.mono (by simp)).trans hCF⟩
      refine HO5.out.chg hCF fun g hg hh => ?_
      have h1 := (HO5.out.blk g hg).1
      have h2 := HT.out.flt g hh
      omega
/-- What End leaves, whatever the slot. -/
def endA (L : List Fl) (s : Int) : List Fl := if useF L s then endF L s.toNat else L
def goneF (L : List Fl) (s : Int) : List Wt := if useF L s then wsF L s.toNat else []
def errE (L : List Fl) (s : Int) : Nat := if useF L s then 0 else 6
theorem end_any (s : Int) (e : Nat) (L' : List Fl) (ws : List Wt) (h : FT F w tb n m L) (he : Hid (e = errE L s)) (hL : Hid (L' = endA L s)) (hws : Hid (ws = goneF L s)) :
    Calls Try.prog 15 #[.pointer (some ⟨tb, 0, none⟩), .int .i64 s] w fun r w' => ∃ v, r = .returned (.tuple #[v, .int .i64 (e : Nat)]) ∧ R.OwnR 38 2 wV w.heap.size w' v ws ∧ FT F w' tb n m L' ∧ Chg F w w' := by
  rw [he.out, hL.out, hws.out]
  unfold errE endA goneF
  cases hb : useF L s with
  | true =>
    obtain ⟨i, rfl, hu⟩ := use_cast hb
    refine (end_yes F tb n m L w i h hu).mono ?_
    rintro r w' ⟨v, rfl, h1, h2, h3⟩
    exact ⟨v, rfl, h1, h2, h3⟩
  | false =>
    refine (end_no _ s w (by simp) (has_any F tb n m L w s false h (Lib.hid hb.symm))).mono ?_
    rintro r w' ⟨rfl, rfl⟩
    exact ⟨_, rfl, R.OwnR.nil _ _ _ _ _, h, Chg.refl _ _⟩
end

end Go.Proofs.Ytopkbchjlifflaa
