/- The walk of Join. -/
import Derived.Test.YtopkbchjlifflaaFlE
import Derived.Deep.RegionLaw
namespace Go.Proofs.Ytopkbchjlifflaa
open Go.RowKit Go.Maps

theorem FTc.cells5 {F : List Nat} {w : World} {tb n m sb mb : Nat} {rv : Value} {L : List Fl} {es : List Ent} {cp : Nat} {tl : List Value} (h : FTc F w tb n m L sb mb rv es cp tl) {s : Nat} (hl : s < es.length) : (w.cell? ⟨sb, s * 5, none⟩ = some (.bool (usedF L s))) ∧ w.cell? ⟨sb, s * 5 + 1, none⟩ = some (.string (bytesV (qsF L s).name)) ∧ w.cell? ⟨sb, s * 5 + 2, none⟩ = some (.int .u16 ((qsF L s).ty : Nat))
    ∧ w.cell? ⟨sb, s * 5 + 3, none⟩ = some (.int .u16 ((qsF L s).cl : Nat)) ∧ w.cell? ⟨sb, s * 5 + 4, none⟩ = some es[s].v := by
  obtain ⟨e1, e2, e3⟩ := h.eok s hl
  refine ⟨?_, ?_, ?_, ?_, ?_⟩
  · have := h.cell hl (j := 0) (u := .bool es[s].used) rfl
    rw [e1] at this
    exact this
  · have := h.cell hl (j := 1) (u := .string (bytesV es[s].q.name)) rfl
    rw [e2] at this
    exact this
  · have := h.cell hl (j := 2) (u := .int .u16 (es[s].q.ty : Nat)) rfl
    rw [e2] at this
    exact this
  · have := h.cell hl (j := 3) (u := .int .u16 (es[s].q.cl : Nat)) rfl
    rw [e2] at this
    exact this
  · exact h.cell hl (j := 4) rfl
theorem own_of (v : Value) (a n c : Nat) (e : v = .slice (some ⟨a, 0, none⟩) n c) : ∀ k, v.ownBlock = some k → k = a := by
  intro k hk
  subst e
  simp [Value.ownBlock] at hk
  exact hk.symm
theorem join_step {F : List Nat} {w4 w5 w6 : World} {tb n m sb mb s g cap : Nat} {rv : Value} {L : List Fl} {es : List Ent} {cp : Nat} {tl : List Value} {x : Wt} (h : FTc F w4 tb n m L sb mb rv es cp tl) (hs : s < es.length) (hu : usedF L s = true) (hlen : (wsF L s).length < m)
    (c45 : Chg [] w4 w5) (hg : w5.grownBy w6 es[s].v.ownBlock) (ho : w6.ownsRow 0 38 2 (.slice (some ⟨g, 0, none⟩) ((wsF L s).length + 1) cap) ((wsF L s).length + 1) ((wsF L s).flatMap wV ++ wV x)) (ha : es[s].v.ownBlock = some g ∨ g = w5.heap.size) (hl : g < w6.heap.size) :
    FNext F w4 (w6.setCell ⟨sb, s * 5 + 4, none⟩ (.slice (some ⟨g, 0, none⟩) ((wsF L s).length + 1) cap)) tb n m (setW L s (wsF L s ++ [x])) := by
  have ap := h.apart
  have s45 := c45.size
  have s56 := hg.size
  have keep : ∀ k, k < w4.heap.size → k ≠ sb → es[s].v.ownBlock ≠ some k → (w6.setCell ⟨sb, s * 5 + 4, none⟩ (.slice (some ⟨g, 0, none⟩) ((wsF L s).length + 1) cap)).heap[k]? = w4.heap[k]? := by
    intro k hk h1 h2
    rw [heap_set_other _ h1, hg.block k (by omega) (fun e => h2 e.symm), c45.block k hk (by simp)]
  have vlt : ∀ k, es[s].v.ownBlock = some k → k < w4.heap.size := fun k hk => h.flt k (h.fes s hs k hk)
  have gs : g ≠ sb := by
    rcases ha with e | e
    · exact ap.vs s hs g e
    · have := h.flt sb h.fsb; omega
  have hset := Chg.set1 w6 sb (s * 5 + 4) (.slice (some ⟨g, 0, none⟩) ((wsF L s).length + 1) cap)
  refine ⟨g :: F, ⟨sb, mb, rv, _, cp, tl, h.turn hs (s := s) (e' := ⟨true, qsF L s, .slice (some ⟨g, 0, none⟩) ((wsF L s).length + 1) cap⟩) ?_ ?_ ?_ ?_ ?_ ?_ ?_ ?_ ?_ ?_ ?_ ?_ ?_⟩, ?_, ?_⟩
  · rw [keep tb (h.flt tb h.ftb) ap.ts (fun e => ap.vt s hs tb e rfl)]; exact h.head
  · have e1 : w6.heap[sb]? = some (.cells (eRow es tl) 85 (0, 0)) := by
      rw [hg.block sb (by have := h.flt sb h.fsb; omega) (fun e => ap.vs s hs sb e.symm rfl), c45.block sb (h.flt sb h.fsb) (by simp)]; exact h.ents
    have k := h.eok s hs
    rw [heap_set e1, eRow_set hs (j := 4) (e := ⟨true, qsF L s, .slice (some ⟨g, 0, none⟩) ((wsF L s).length + 1) cap⟩) (by omega) (by
      unfold eV
      rw [k.used, k.q, hu]
      rfl)]
  · intro t ht hts k hk
    exact keep k (h.flt k (h.fes t ht k hk)) (ap.vs t ht k hk) (fun e => h.nd s hs t ht (fun e => hts e.symm) k e hk)
  · intro t ht
    refine ⟨setW_used _ _ _ _, ?_, setW_ws_other _ _ ht⟩
    unfold qsF
    rw [setW_q]
  · refine ⟨by rw [setW_used]; exact hu.symm, by unfold qsF; rw [setW_q], ?_⟩
    rw [setW_ws_same _ hu]
    refine (R.OwnR.snoc ho).chg hset fun k hk => ?_
    have := own_of _ _ _ _ rfl k hk
    simp
    omega
  · intro k hk
    have := own_of _ _ _ _ rfl k hk
    subst this
    rcases ha with e | e
    · exact .inl e
    · right; omega
  · rw [setW_slots]
    exact h.row.keep fun k hk => keep k (h.row.blk k hk).2.1 (ap.rs k hk) (fun e => ap.vr s hs k e hk)
  · refine (h.map.keep ?_).same (setW_qs L s _)
    exact keep mb (h.flt mb h.fmb) (Ne.symm ap.sm) (fun e => ap.vm s hs mb e rfl)
  · exact h.ok.join s (by rw [List.length_append, List.length_singleton]; omega)
  · exact fun y hy => List.mem_cons_of_mem _ hy
  · exact fun k hk => List.mem_cons_of_mem _ (h.frv k hk)
  · intro k hk
    rw [own_of _ _ _ _ rfl k hk]
    exact List.mem_cons_self
  · intro y hy
    rw [World.size_setCell]
    rcases List.mem_cons.1 hy with e | e
    · omega
    · have := h.flt y e; omega
  · have k1 : Chg F w4 w6 := (c45.mono (by simp)).grown hg (fun k hk => .inl (h.fes s hs k hk))
    exact k1.setCell (.inl h.fsb) _
  · intro y hy
    rcases List.mem_cons.1 hy with e | e
    · subst e
      rcases ha with e | e
      · exact .inl (h.fes s hs y e)
      · right; omega
    · exact .inl e
/-- What Join answers and leaves. -/
def joinF (L : List Fl) (m : Nat) (s : Int) (x : Wt) : List Fl × Nat :=
  if useF L s then (if x.who < 0 ∨ 65535 < x.who then (L, 1) else if m ≤ (wsF L s.toNat).length then (L, 9) else (setW L s.toNat (wsF L s.toNat ++ [x]), 0)) else (L, 6)
theorem Try.elemWaiter : (Try.prog.info? 38).map (fun i => (i.zero.map fun z => z.cells.size, i.size, i.bytes)) = some (some 2, 2, 24) := by kernel_rfl
theorem join_nil (w : World) (s : Int) (x : Wt) : Calls Try.prog 13 #[.pointer none, .int .i64 s, .agg #[.int .i64 x.who, .string (bytesV x.data)]] w fun e w' => e = .returned (.int .i64 2) ∧ Chg [] w w' := by
  go_enter Try.func13, Try.ntmps13
  go_wp2
  go_ret
  exact ⟨rfl, (Chg.refl _ _).alloc _⟩
section
variable (F : List Nat) (tb n m : Nat) (L : List Fl) (w : World)
set_option maxRecDepth 100000 in
set_option maxHeartbeats 4000000 in
theorem join_any (s : Int) (x : Wt) (e : Nat) (L' : List Fl) (h : FT F w tb n m L) (hr : Hid (joinF L m s x = (L', e))) :
    Calls Try.prog 13 #[.pointer (some ⟨tb, 0, none⟩), .int .i64 s, .agg #[.int .i64 x.who, .string (bytesV x.data)]] w fun r w' => r = .returned (.int .i64 (e : Nat)) ∧ FNext F w w' tb n m L' := by
  obtain ⟨b, hb⟩ : ∃ b, b = useF L s := ⟨_, rfl⟩
  have hhas := fun w' (hc : Chg [] w w') => has_any F tb n m L w' s b (h.same hc) (Lib.hid hb)
  have H := Lib.hid h
  obtain ⟨who, data⟩ := x
  obtain ⟨dx, hdx⟩ : ∃ dx, dx = bytesV data := ⟨_, rfl⟩
  show Calls Try.prog 13 #[.pointer (some ⟨tb, 0, none⟩), .int .i64 s, .agg #[.int .i64 who, .string (bytesV data)]] w _
  rw [← hdx]
  cases b with
  | false =>
    have e0 : joinF L m s ⟨who, data⟩ = (L, 6) := by unfold joinF; rw [← hb]; rfl
    have e1 := hr.out
    rw [e0] at e1
    injection e1 with e1 e2
    subst e1; subst e2
    clear e0 hr h hdx hb
    go_enter Try.func13, Try.ntmps13
    go_wp2_with fail
    refine (hhas _ ((Chg.refl _ _).alloc _)).mono ?_
    rintro e w1 ⟨rfl, rfl⟩
    go_wp2
    go_ret
    exact ⟨rfl, FNext.refl H.out ((Chg.refl _ _).alloc _)⟩
  | true =>
    obtain ⟨i, rfl, hu⟩ := use_cast hb.symm
    have hin := used_lt h hu
    have e0 : joinF L m (i : Int) ⟨who, data⟩ = if who < 0 ∨ 65535 < who then (L, 1) else if m ≤ (wsF L i).length then (L, 9) else (setW L i (wsF L i ++ [⟨who, data⟩]), 0) := by unfold joinF; rw [← hb]; rfl
    have e1 := hr.out
    rw [e0] at e1
    clear e0 hr hb
    obtain ⟨p0, hp0⟩ : ∃ p0, p0 = w.heap.size := ⟨_, rfl⟩
    by_cases hw : who < 0 ∨ 65535 < who
    · rw [if_pos hw] at e1
      injection e1 with e1 e2
      subst e1; subst e2
      clear h hdx hu
      by_cases h0 : who < 0
      case' pos => have t0 : decide (who < 0) = true := by simpa using h0
      case' neg =>
        have t0 : decide (who < 0) = false := by simpa using h0
        have t1 : decide (65535 < who) = true := by simp; omega
      all_goals
        clear h0 hw
        go_enter Try.func13, Try.ntmps13
        go_wp2_with fail
        refine (hhas _ ((Chg.refl _ _).alloc _)).mono ?_
        rintro e w1 ⟨rfl, rfl⟩
        go_wp2
        go_ret
        exact ⟨rfl, FNext.refl H.out ((Chg.refl _ _).alloc _)⟩
    · rw [if_neg hw] at e1
      have t0 : decide (who < 0) = false := by simp; omega
      have t1 : decide (65535 < who) = false := by simp; omega
      clear hw
      obtain ⟨sb, mb, rv, es, cp, tl, hT⟩ := h
      have hil : i < es.length := by rw [hT.elen]; exact hin
      have h32 := hT.n32
      have h16 := hT.m16
      have hW4 : (wsF L i).length ≤ m := by
        cases hg : getF L i with
        | none => unfold wsF; rw [hg]; exact Nat.zero_le _
        | some f => unfold wsF; rw [hg]; exact hT.ok.wait f (getF_some hg).1
      obtain ⟨v, hv⟩ : ∃ v, v = es[i].v := ⟨_, rfl⟩
      have hrow := (hT.eok i hil).ws
      rw [← hv] at hrow
      obtain ⟨ra, rc, hrv⟩ := hrow.len
      obtain ⟨ln, hln⟩ : ∃ ln, ln = (wsF L i).length := ⟨_, rfl⟩
      rw [← hln] at hrv e1 hW4
      have HDX := Lib.hid hdx
      clear hdx
      go_enter Try.func13, Try.ntmps13
      go_wp2_with fail
      rw [← hp0]
      refine calls_abs ?_
      intro W hW
      have b0 : W.heap[p0]? = some (.cells #[.int .i64 who, .string dx] 38 (0, 0)) := by rw [hW]; exact heap_new' _ _ _ hp0
      have hcW : Chg [] w W := by rw [hW]; exact (Chg.refl _ _).alloc _
      have l0 : W.cell? ⟨p0, 0, none⟩ = some (.int .i64 who) := cell_of b0
      have l1 : W.cell? ⟨p0, 1, none⟩ = some (.string dx) := cell_of b0
      have hT4 := hT.same hcW
      have k0 : W.cell? ⟨tb, 0, none⟩ = some (.int .i64 (m : Nat)) := cell_of hT4.head
      have k1 : W.cell? ⟨tb, 1, none⟩ = some (.slice (some ⟨sb, 0, none⟩) n cp) := cell_of hT4.head
      obtain ⟨_, _, _, _, d4⟩ := hT4.cells5 hil
      rw [← hv, hrv] at d4
      have f4 : ∀ i, W.frozen? ⟨sb, i, none⟩ = false := fun i => free_of hT4.ents
      have hhas1 := hhas W hcW
      have hsbW := hT4.flt sb hT4.fsb
      have hvs : ∀ k, v.ownBlock = some k → k ≠ sb := fun k hk => hT4.apart.vs i hil k (by rw [← hv]; exact hk)
      have HT4 := Lib.hid hT4
      have HROW := Lib.hid (hrow.same hcW)
      have HV := Lib.hid hv
      have HRV := Lib.hid hrv
      have HLN := Lib.hid hln
      have HVS := Lib.hid hvs
      have HU := Lib.hid hu
      clear hW hp0 b0 hT hrow hv hrv hln hT4 hhas hu hvs
      refine hhas1.mono ?_
      rintro e9 w1 ⟨rfl, rfl⟩
      clear hhas1
      by_cases hml : m ≤ ln
      · rw [if_pos hml] at e1
        injection e1 with e1 e2
        subst e1; subst e2
        have t3 : decide (m ≤ ln) = true := by simpa using hml
        have t3I : decide ((m : Int) ≤ (ln : Int)) = true := by simp; omega
        clear hml
        go_wp2_with fail
        go_quiet (fail)
        generalize hw5 : W.drewN nq = w5
        have hc5 : Chg [] w w5 := by rw [← hw5]; exact hcW.drewN _
        clear hw5
        go_wp2
        go_ret
        exact ⟨rfl, FNext.refl H.out hc5⟩
      · rw [if_neg hml] at e1
        injection e1 with e1 e2
        subst e1; subst e2
        have t3 : decide (m ≤ ln) = false := by simpa using hml
        have t3I : decide ((m : Int) ≤ (ln : Int)) = false := by simp; omega
        have hlm : ln < m := by omega
        clear hml
        obtain ⟨i0, z, hi0, hz0, hz1, hz2, hz3⟩ := info_sizes Try.elemWaiter
        go_wp2_with fail
        go_quiet (fail)
        generalize hw5 : W.drewN nq = w5
        have hc5 : Chg [] W w5 := by rw [← hw5]; exact (Chg.refl _ _).drewN _
        have d5 := hc5.cell d4 (by simp)
        have m0 := hc5.cell l0 (by simp)
        have m1 := hc5.cell l1 (by simp)
        have f5 : ∀ i, w5.frozen? ⟨sb, i, none⟩ = false := fun i => free_of (hc5.keep HT4.out.ents (by simp))
        have hT5 := HT4.out.same hc5
        have hown : ((w5.alloc (.cells #[.int .i64 who, .string dx] 38)).drew).ownsRow 0 38 2 (.slice ra ln rc) ln ((wsF L i).flatMap wV) := by
          have h1 : R.OwnR 38 2 wV 0 ((w5.alloc (.cells #[.int .i64 who, .string dx] 38)).drew) v (wsF L i) := HROW.out.same ((hc5.alloc _).drew)
          unfold R.OwnR at h1
          rw [HRV.out, ← HLN.out] at h1
          exact h1
        have hnew : ∀ j u, [Value.int .i64 who, .string dx][j]? = some u → ((w5.alloc (.cells #[.int .i64 who, .string dx] 38)).drew).cell? ((⟨w5.heap.size, 0, none⟩ : Addr).add j) = some u := fun j u hu => World.news_of_block (heap_new w5 _) j u (by simpa using hu)
        have hsb5 := hT5.flt sb hT5.fsb
        have hone : ∀ u ∈ [Value.int .i64 who, Value.string dx], u.oneCell' = true := by
          intro u hu
          simp at hu
          rcases hu with rfl | rfl <;> rfl
        have hb1 : ln + 1 ≤ maxLen := by unfold maxLen; omega
        have hb2 : (ln + 1) * 24 ≤ 140737488355328 := by omega
        have hq : ∀ w6, ((w5.alloc (.cells #[.int .i64 who, .string dx] 38)).drew).grownBy w6 (Value.slice ra ln rc).ownBlock → w6.cell? ⟨sb, i * 5 + 4, none⟩ = some (.slice ra ln rc) ∧ w6.frozen? ⟨sb, i * 5 + 4, none⟩ = false := by
          intro w6 hg
          have hne : some sb ≠ (Value.slice ra ln rc).ownBlock := fun e => HVS.out sb (by rw [HRV.out]; exact e.symm) rfl
          have hsz := ((Chg.refl [] w5).alloc (.cells #[.int .i64 who, .string dx] 38)).drew.size
          have h2 : w6.heap[sb]? = w5.heap[sb]? := (hg.block sb (by omega) hne).trans (((Chg.refl [] w5).alloc _).drew.block sb hsb5 (by simp))
          refine ⟨?_, ?_⟩
          · rw [World.cell?_of_block (w := w5) h2]; exact d5
          · rw [World.frozen?_of_block (w := w5) h2]; exact f5 _
        have HOWN := Lib.hid hown
        have HNEWS := Lib.hid hnew
        have HT5 := Lib.hid hT5
        have HONE := Lib.hid hone
        have HB1 := Lib.hid hb1
        have HB2 := Lib.hid hb2
        have HQ := Lib.hid hq
        have hsz : (0 : Nat) < 2 := by decide
        have hs1 : (0 : Nat) < 1 := by decide
        clear hw5 hown hnew hT5 d4 l0 l1 f4 k0 k1 hone hb1 hb2 hq
        go_wp2_with fail
        go_region_law (refine step_append_lies _ rfl (.tmp 42) (.tmp 44) 42 rfl 0 38 i0 z 2 24 Try.underlying42 hi0 hz0 hz1 hz2 hz3 hsz (.slice ra ln rc) ln ((wsF L i).flatMap wV) rfl HOWN.out ⟨w5.heap.size, 0, none⟩ 1 1 [.int .i64 who, .string dx] rfl rfl HNEWS.out HONE.out hs1 HB1.out HB2.out (Nat.zero_le _) _ rfl ?_; intro g cap w6 ho hg ha hl; obtain ⟨q3, q4⟩ := HQ.out w6 hg)
        all_goals
          have HG := Lib.hid hg
          have HO := Lib.hid ho
          have HA := Lib.hid ha
          have HL := Lib.hid hl
          clear hg ho ha hl
          go_wp2
          go_ret
          refine ⟨rfl, FNext.pre (hcW.trans hc5) ?_⟩
          have hve : es[i].v = .slice ra ln rc := by rw [← HV.out]; exact HRV.out
          have k := join_step (x := ⟨who, data⟩) HT5.out hil HU.out (by rw [← HLN.out]; exact hlm) (((Chg.refl [] w5).alloc (.cells #[.int .i64 who, .string dx] 38)).drew) (w6 := w6) (g := g) (cap := cap) (by rw [hve]; exact HG.out) (by rw [← HLN.out]; have := HO.out; rw [HDX.out] at this; exact this) (by rw [hve]; rcases HA.out with e | e; exact .inl e; exact .inr (e.trans (by simp))) HL.out
          rw [← HLN.out] at k
          exact k
end

end Go.Proofs.Ytopkbchjlifflaa
