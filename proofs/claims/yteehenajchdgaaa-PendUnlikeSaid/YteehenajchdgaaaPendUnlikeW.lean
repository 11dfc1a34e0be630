/- The walk of PendUnlike. -/
import Derived.Test.YteehenajchdgaaaPendBook
import Derived.Deep.CutRange
namespace Go.Proofs.Yteehenajchdgaaa
open Go.RowKit Go.Maps

theorem zc_alloc {W : World} {p : Nat} {a b : Value} (h : W.cell? ⟨p, 1, none⟩ = some a ∧ W.cell? ⟨p, 2, none⟩ = some b) (o : Obj) : (W.alloc o).cell? ⟨p, 1, none⟩ = some a ∧ (W.alloc o).cell? ⟨p, 2, none⟩ = some b :=
  ⟨((Chg.refl [] W).alloc o).cell h.1 (by simp), ((Chg.refl [] W).alloc o).cell h.2 (by simp)⟩
theorem zc_drew {W : World} {p q : Addr} {a b : Value} (h : W.cell? p = some a ∧ W.cell? q = some b) : W.drew.cell? p = some a ∧ W.drew.cell? q = some b := h
theorem heap_drew {W : World} {k : Nat} {o : Obj} (h : W.heap[k]? = some o) : W.drew.heap[k]? = some o := h
theorem zc3_alloc {W : World} {p q r k : Nat} {a b c : Value} (h : W.cell? ⟨p, k, none⟩ = some a ∧ W.cell? ⟨q, k, none⟩ = some b ∧ W.cell? ⟨r, k, none⟩ = some c) (o : Obj) : (W.alloc o).cell? ⟨p, k, none⟩ = some a ∧ (W.alloc o).cell? ⟨q, k, none⟩ = some b ∧ (W.alloc o).cell? ⟨r, k, none⟩ = some c :=
  ⟨((Chg.refl [] W).alloc o).cell h.1 (by simp), ((Chg.refl [] W).alloc o).cell h.2.1 (by simp), ((Chg.refl [] W).alloc o).cell h.2.2 (by simp)⟩
section
variable {base : Nat} {w0 W1 w1 W2 w2 W3 w3 : World} {v1 v2 v3 : Value} {L : List Ou}
theorem aft1 (h : Bk base w0 v1 v2 v3 L) (c01 : Chg [] w0 W1) (hg1 : W1.grownBy w1 v1.ownBlock) : Chg (blkL v1 ++ blkL v2 ++ blkL v3) w0 w1 ∧ R.OwnR 3 1 sV base w1 v2 L ∧ R.OwnR 34 1 iV base w1 v3 L :=
  ⟨(c01.mono (by simp)).grown hg1 (fun k hk => .inl (by simp [mem_blkL, hk])), own_grow (h.b.same c01) hg1 (fun g hg e => h.ab g e hg), own_grow (h.c.same c01) hg1 (fun g hg e => h.ac g e hg)⟩
theorem aft2 (h : Bk base w0 v1 v2 v3 L) (q1 : Chg (blkL v1 ++ blkL v2 ++ blkL v3) w0 w1) (o3 : R.OwnR 34 1 iV base w1 v3 L) (c12 : Chg [] w1 W2) (hg2 : W2.grownBy w2 v2.ownBlock) : Chg (blkL v1 ++ blkL v2 ++ blkL v3) w0 w2 ∧ R.OwnR 34 1 iV base w2 v3 L :=
  ⟨(q1.trans (c12.mono (by simp))).grown hg2 (fun k hk => .inl (by simp [mem_blkL, hk])), own_grow (o3.same c12) hg2 (fun g hg e => h.bc g e hg)⟩
theorem aft3 (_ : Bk base w0 v1 v2 v3 L) (q2 : Chg (blkL v1 ++ blkL v2 ++ blkL v3) w0 w2) (c23 : Chg [] w2 W3) (hg3 : W3.grownBy w3 v3.ownBlock) : Chg (blkL v1 ++ blkL v2 ++ blkL v3) w0 w3 :=
  (q2.trans (c23.mono (by simp))).grown hg3 (fun k hk => .inl (by simp [mem_blkL, hk]))
end
theorem lenU_snoc (l : List Ou) (o : Ou) (u : Int) : lenO (l ++ [o]) u = if o.u = u then lenO l u + 1 else lenO l u := by
  obtain ⟨a, s, i⟩ := o
  unfold lenO
  rw [outs_add]
  by_cases e : a = u
  · rw [if_pos e.symm, if_pos e]; simp
  · rw [if_neg (fun h => e h.symm), if_neg e]
/-- What an act leaves of the book. -/
def keepU (K : Nat) (U N : Int) (o : Ou) : Bool := !((decide (K = 1) && decide (o.slot = N)) || (decide (K = 2) && decide (o.slot = N) && decide (o.u = U)))
theorem keepU_do {n seed : Nat} {l : List Nat} {st : PS} {K : Nat} {U N : Int} (h : K ≠ 0) : doP n seed l st ⟨K, U, N⟩ = ⟨st.L.filter (keepU K U N), st.k⟩ := by
  unfold doP
  rw [if_neg h]
  by_cases h1 : K = 1
  · rw [if_pos h1]
    simp only [PS.mk.injEq, and_true]
    unfold freeA
    congr 1
    funext o
    simp [keepU, h1]
  · rw [if_neg h1]
    by_cases h2 : K = 2
    · rw [if_pos h2]
      simp only [PS.mk.injEq, and_true]
      unfold freeO
      congr 1
      funext o
      simp [keepU, h2]
    · rw [if_neg h2]
      have : st.L.filter (keepU K U N) = st.L := List.filter_eq_self.2 fun o _ => by simp [keepU, h1, h2]
      rw [this]

/-- A region whose ends differ in six numbers, in three values and in the world: walked once, the rest stands behind it once. -/
def End9 (A : Nat → Nat → Nat → Nat → Nat → Nat → Value → Value → Value → Act) (T : Nat → Nat → Nat → Nat → Nat → Nat → World → Prop) : Exit → Act → World → Prop
  | .normal, a, w => ∃ g1 k1 g2 k2 g3 k3 y1 y2 y3, a = A g1 k1 g2 k2 g3 k3 y1 y2 y3 ∧ T g1 k1 g2 k2 g3 k3 w
  | _, _, _ => False
theorem wp_any9 {P : Program} {c : Code} {Q : Exit → Act → World → Prop} {a : Act} {w : World} {T : Nat → Nat → Nat → Nat → Nat → Nat → World → Prop} (A : Nat → Nat → Nat → Nat → Nat → Nat → Value → Value → Value → Act) (h : c.wp P (End9 A T) a w)
    (k : ∀ g1 k1 g2 k2 g3 k3 y1 y2 y3 w', T g1 k1 g2 k2 g3 k3 w' → Q .normal (A g1 k1 g2 k2 g3 k3 y1 y2 y3) w') : c.wp P Q a w :=
  Code.wp_mono (fun e a w hq => by
    cases e with
    | normal => obtain ⟨g1, k1, g2, k2, g3, k3, y1, y2, y3, rfl, ht⟩ := hq; exact k _ _ _ _ _ _ _ _ _ _ ht
    | _ => exact hq.elim) h
def UnQ (L : List Ou) (w5 : World) (v : Value) (wq : World) : Prop := ∃ q : Nat, q ≤ L.length ∧ v = .int .i64 (q : Nat) ∧ Chg [] w5 wq
def UnK (b2 : Nat) (L : List Ou) (p : Ou → Bool) (w5 : World) (v1 v2 v3 i : Value) (wr : World) : Prop := ∃ q : Nat, q ≤ L.length ∧ i = .int .i64 (q : Nat) ∧ Bk b2 wr v1 v2 v3 ((L.take q).filter p) ∧ Chg [] w5 wr
theorem zc3_drew {W : World} {p q r : Addr} {a b c : Value} (h : W.cell? p = some a ∧ W.cell? q = some b ∧ W.cell? r = some c) : W.drew.cell? p = some a ∧ W.drew.cell? q = some b ∧ W.drew.cell? r = some c := h
theorem zc3a {W : World} {p q r k : Nat} {a b c : Value} (h : W.cell? ⟨p, k, none⟩ = some a ∧ W.cell? ⟨q, k, none⟩ = some b ∧ W.cell? ⟨r, k, none⟩ = some c) (o : Obj) : (W.alloc o).cell? ⟨p, k, none⟩ = some a ∧ (W.alloc o).cell? ⟨q, k, none⟩ = some b ∧ (W.alloc o).cell? ⟨r, k, none⟩ = some c :=
  ⟨((Chg.refl [] W).alloc o).cell h.1 (by simp), ((Chg.refl [] W).alloc o).cell h.2.1 (by simp), ((Chg.refl [] W).alloc o).cell h.2.2 (by simp)⟩
def UnR (base tb : Nat) (ms : List Nat) (n b seed : Nat) (l : List Nat) (m : Nat) (w : World) (v1 v2 v3 i : Value) (wr : World) : Prop :=
  ∃ (j : Nat) (st : PS), j ≤ m ∧ i = .int .i64 (j : Nat) ∧ TT wr tb ms n b seed l st ∧ Bk base wr v1 v2 v3 st.L ∧ Chg [] w wr ∧ base ≤ wr.heap.size ∧ st.L.length ≤ j ∧ st.k ≤ j

set_option maxRecDepth 100000 in
set_option maxHeartbeats 16000000 in
theorem pendUnlike_walk (x sd : Int) (fa : Option Addr) (flen fcap : Nat) (zs : List Int) (a : Option Addr) (cap : Nat) (acts : List ActT) (w : World) (hx : (Lit.int .i64 x).wf = true) (hsd : (Lit.int .u64 sd).wf = true) (hz : IsRow .u64 w fa flen fcap zs) (hA : IsActs w a acts) :
    Calls Try.prog 3 #[.int .i64 x, .int .u64 sd, .slice fa flen fcap, .slice a acts.length cap] w fun e w' => e = .returned (.bool true) ∧ Below w.heap.size w w' := by
  have hmax := hA.1
  unfold maxLen at hmax
  have hxi := int_i64 hx
  obtain ⟨l, hll, hlb, hrd, _, hlm⟩ := D.arg_u64 hz
  unfold maxLen at hlm
  obtain ⟨seed, rfl, hseed⟩ := D.nat_of_u64 hsd
  have HA := Lib.hid hA
  have HRD := Lib.hid hrd
  have HLB := Lib.hid hlb
  subst hll
  clear hA hrd hlb hz hx hsd
  by_cases hb1 : 200 < acts.length
  · have hb1I : (200 : Int) < (acts.length : Int) := by omega
    go_enter Try.func3, Try.ntmps3
    go_wp2_with fail
    refine (awake_any _).mono ?_
    rintro e w1 ⟨rfl, hc1⟩
    go_wp2
    go_ret
    exact ⟨rfl, hc1.below (Nat.le_refl _) (by simp)⟩
  have hd1 : decide (200 < acts.length) = false := by simpa using hb1
  have hd1I : decide ((200 : Int) < (acts.length : Int)) = false := by simp; omega
  by_cases hb2 : 300 < l.length
  · have hb2I : (300 : Int) < (l.length : Int) := by omega
    clear hb1
    go_enter Try.func3, Try.ntmps3
    go_wp2_with fail
    refine (awake_any _).mono ?_
    rintro e w1 ⟨rfl, hc1⟩
    go_wp2
    go_ret
    exact ⟨rfl, hc1.below (Nat.le_refl _) (by simp)⟩
  have hd2 : decide (300 < l.length) = false := by simpa using hb2
  have hd2I : decide ((300 : Int) < (l.length : Int)) = false := by simp; omega
  have hal : acts.length ≤ 200 := by omega
  have hll : l.length ≤ 300 := by omega
  clear hb1 hb2
  go_enter Try.func3, Try.ntmps3
  go_wp2_with fail
  refine (awake_any _).mono ?_
  rintro e w1 ⟨rfl, hc1⟩
  have hrd1 := HRD.out.chg (S := []) hc1 (by simp)
  obtain ⟨n, hn⟩ : ∃ n, n = upsN x := ⟨_, rfl⟩
  obtain ⟨st, hst⟩ : ∃ st, st = runP n seed l ⟨[], 0⟩ [] := ⟨_, rfl⟩
  have HN := Lib.hid hn
  have HST := Lib.hid hst
  clear hn hst HRD
  go_wp2_with fail
  refine (made_any x seed _ l none 0 [] n st w1 hxi (by omega) HLB.out hrd1 (isActs_nil w1) (by simp) HN HST).mono ?_
  rintro e w2 ⟨tb, ms, b, rfl, hM⟩
  have hT0 : TT w2 tb ms n b seed l ⟨[], 0⟩ := by have := hM.tt; rw [HST.out] at this; exact this
  have hC2 := hc1.trans hM.chg
  have hlo : ∀ y ∈ b :: ms, w.heap.size ≤ y := by
    intro y hy
    rcases List.mem_cons.1 hy with e | e
    · rw [e]; exact Nat.le_trans hc1.size hM.lob
    · exact Nat.le_trans hc1.size (hM.lom y e)
  have hlt2 : ∀ y ∈ b :: ms, y < w2.heap.size := by
    intro y hy
    rcases List.mem_cons.1 hy with e | e
    · rw [e]; exact hT0.tape.lt
    · exact hT0.tab.mlt y e
  have hn9 := hT0.tab.n9
  obtain ⟨base, hbase⟩ : ∃ base, base = w2.heap.size := ⟨_, rfl⟩
  have hb2 : base ≤ w2.heap.size := by omega
  have hwb : w.heap.size ≤ base := by have := hC2.size; omega
  rw [← hbase] at hlt2
  have HLO := Lib.hid hlo
  have HLT2 := Lib.hid hlt2
  have HT0 := Lib.hid hT0
  have HACTS := Lib.hid HA.out.2
  obtain ⟨i0, hi0, hz0, hz1, hz2⟩ := info_parts (show (Try.prog.info? 3).map (fun i => (i.zero, i.size, i.bytes)) = some (some (.int .i64 0), 1, 8) by kernel_rfl)
  obtain ⟨j0, hj0, hy0, hy1, hy2⟩ := info_parts Try.elemU16
  clear hT0 hM hlo hlt2 hbase hc1 hrd1 HLB HN HST HA
  go_wp2_with fail
  go_loopw [12, 13, 14, 15] (UnR base tb ms n b seed l acts.length w) (fun _ _ _ i _ => acts.length - (intOf i).toNat)
  case atStart => exact ⟨0, ⟨[], 0⟩, Nat.zero_le _, rfl, HT0.out, Bk.nil _ _, hC2, hb2, Nat.le_refl _, Nat.le_refl _⟩
  case round =>
    clear HT0 hC2 hb2
    obtain ⟨j, ⟨L, k⟩, hj, rfl, hT, hB, hC, hbs, hLj, hkj⟩ := hrel
    simp only at hB hLj hkj
    obtain ⟨a1, c1, rfl⟩ := hB.a.len
    obtain ⟨a2, c2, rfl⟩ := hB.b.len
    obtain ⟨a3, c3, rfl⟩ := hB.c.len
    by_cases hlt : j < acts.length
    · obtain ⟨g, o, ha, hg, d0, d1, d2, hok⟩ := HACTS.out j hlt
      obtain ⟨A, hA⟩ : ∃ A, A = acts[j] := ⟨_, rfl⟩
      rw [← hA] at d0 d1 d2 hok
      obtain ⟨K, U, N⟩ := A
      subst ha
      have e0 : wr.cell? ⟨g, o + j * 3, none⟩ = some (.int .u8 K) := hC.cell d0 (by simp)
      have e1 : wr.cell? ⟨g, o + j * 3 + 1, none⟩ = some (.int .i64 U) := hC.cell d1 (by simp)
      have e2 : wr.cell? ⟨g, o + j * 3 + 2, none⟩ = some (.int .i64 N) := hC.cell d2 (by simp)
      clear hA d0 d1 d2 hok
      obtain ⟨p0, hp0⟩ : ∃ p0, p0 = wr.heap.size := ⟨_, rfl⟩
      have hpF : p0 ∉ b :: ms := by intro hh; have := HLT2.out _ hh; omega
      by_cases hK0 : K = 0
      · subst hK0
        go_wp2_with fail
        rw [← hp0]
        refine calls_abs ?_
        intro w0 hw0
        have z1 : w0.cell? ⟨p0, 1, none⟩ = some (.int .i64 U) := by rw [hw0, hp0]; exact cell_of (heap_new _ _)
        have z2 : w0.cell? ⟨p0, 2, none⟩ = some (.int .i64 N) := by rw [hw0, hp0]; exact cell_of (heap_new _ _)
        have hc0 : Chg [] wr w0 := by rw [hw0]; exact (Chg.refl _ _).alloc _
        have hT0 := hT.same hc0
        have hB0 := hB.chg hc0 (by simp)
        have hC0 := hC.trans hc0
        have hbs0 : base ≤ w0.heap.size := Nat.le_trans hbs hc0.size
        have hpb : ∀ v : Value, (∀ g, v.ownBlock = some g → g < wr.heap.size) → p0 ∉ blkL v := by
          intro v hv hh
          have := hv p0 (mem_blkL.1 hh)
          omega
        have hpS : p0 ∉ blkL (.slice a1 L.length c1) ++ blkL (.slice a2 L.length c2) ++ blkL (.slice a3 L.length c3) := by
          rw [List.mem_append, List.mem_append]
          rintro ((hh | hh) | hh)
          · exact hpb _ (fun g hg => (hB.a.blk g hg).2.1) hh
          · exact hpb _ (fun g hg => (hB.b.blk g hg).2.1) hh
          · exact hpb _ (fun g hg => (hB.c.blk g hg).2.1) hh
        clear hw0 hp0 e0 e1 e2 hT hB hC hc0 hbs hpb
        obtain ⟨ee, hee⟩ : ∃ ee, ee = errP n L U N := ⟨_, rfl⟩
        obtain ⟨r, hr⟩ : ∃ r, r = idP n L U N (D.drawN seed l k) := ⟨_, rfl⟩
        obtain ⟨L', hL'⟩ : ∃ L', L' = drawL n L U N (D.drawN seed l k) := ⟨_, rfl⟩
        obtain ⟨k', hk'⟩ : ∃ k', k' = usedP n L U N k := ⟨_, rfl⟩
        have hkl : k' ≤ j + 1 := by have := usedP_le n L U N k; rw [← hk'] at this; omega
        have hok0 := hT0.tab.ok
        have hcase : (ee ≠ 0 ∧ L' = L) ∨ (ee = 0 ∧ L' = L ++ [⟨U, N, r⟩] ∧ hasO L U r = false) := by
          by_cases h0 : ee = 0
          · right
            have h1 : errP n L U N = 0 := by rw [← hee]; exact h0
            obtain ⟨p1, p2, p3⟩ := errP_ok h1
            have e3 : r = nextO L U (D.drawN seed l k % 65536) := by rw [hr]; unfold idP; rw [if_pos h1]
            refine ⟨h0, by rw [hL', e3]; unfold drawL; rw [if_pos h1], ?_⟩
            rw [e3]
            exact nextO_free hok0 p3 (Nat.mod_lt _ (by omega))
          · left
            have h1 : ¬ errP n L U N = 0 := by rw [← hee]; exact h0
            exact ⟨h0, by rw [hL']; unfold drawL; rw [if_neg h1]⟩
        have hrl : r < 65536 := by rw [hr]; exact idP_lt _ _ _ _ _
        have H1 := Lib.hid hee
        have H2 := Lib.hid hr
        have H3 := Lib.hid hL'
        have H4 := Lib.hid hk'
        have HB0 := Lib.hid hB0
        clear hee hr hL' hk'
        refine (draw_any tb ms n L w0 U N b seed l k r ee k' L' hT0.tab hT0.tape (by omega) H1 H2 H3 H4).mono ?_
        rintro e9 w5 ⟨rfl, k5, t5, hc5⟩
        have hT5 : TT w5 tb ms n b seed l ⟨L', k'⟩ := ⟨k5, t5⟩
        have hB5 := hB0.chg hc5 HLT2.out
        have hC5 := hC0.trans_new hc5 (fun y hy => .inr (HLO.out y hy))
        have y1 := hc5.cell (p := ⟨p0, 1, none⟩) z1 hpF
        have y2 := hc5.cell (p := ⟨p0, 2, none⟩) z2 hpF
        have hbs5 : base ≤ w5.heap.size := Nat.le_trans hbs0 hc5.size
        clear z1 z2 hT0 hB0 HB0 hC0 hc5 k5 t5 H1 H2 H3 H4 hbs0 hok0
        rcases hcase with ⟨hne, hLL⟩ | ⟨hee, hLL, hfree⟩
        · subst hLL
          have te : ((ee : Int) != 0) = true := by simp; omega
          clear hne
          go_wp2
          go_roundw
          case rel => exact ⟨j + 1, ⟨L', k'⟩, by omega, by go_num, hT5, hB5, hC5, hbs5, by simp only; omega, hkl⟩
          case measure => simp [intOf] <;> omega
        · subst hee
          have HLL := Lib.hid hLL
          have HFREE := Lib.hid hfree
          have HB5 := Lib.hid hB5
          have HT5 := Lib.hid hT5
          have HC5 := Lib.hid hC5
          clear hLL hfree hB5 hT5 hC5
          go_wp2_with fail
          go_loopw [19] (UnQ L w5) (fun v _ => L.length - (intOf v).toNat)
          case atStart => exact ⟨0, Nat.zero_le _, rfl, Chg.refl _ _⟩
          case round =>
            obtain ⟨q, hq, rfl, hcq⟩ := hrel
            have x1 := hcq.cell y1 (by simp)
            have x2 := hcq.cell y2 (by simp)
            by_cases hlq : q < L.length
            · obtain ⟨ga, ca, hva, _, _, hxa⟩ := HB5.out.a.cells uV_len (by omega)
              obtain ⟨gc, cc, hvc, _, _, hxc⟩ := HB5.out.c.cells iV_len (by omega)
              injection hva with hva1 hva2 hva3
              injection hvc with hvc1 hvc2 hvc3
              subst hva1
              subst hvc1
              clear hva2 hva3 hvc2 hvc3
              obtain ⟨o1, ho1⟩ : ∃ o1, o1 = L[q] := ⟨_, rfl⟩
              have f1 := hcq.cell (hxa q hlq 0 (.int .i64 o1.u) (by rw [← ho1]; rfl)) (by simp)
              have f2 := hcq.cell (hxc q hlq 0 (.int .u16 (o1.id : Nat)) (by rw [← ho1]; rfl)) (by simp)
              rw [Nat.mul_one, Nat.add_zero] at f1 f2
              have hom : o1 ∈ L := by rw [ho1]; exact List.getElem_mem hlq
              have hno : o1.u = U → o1.id ≠ r := by
                intro e1 e2
                have := HFREE.out
                rw [hasO_iff.2 ⟨o1, hom, e1, e2⟩] at this
                cases this
              have HNO := Lib.hid hno
              clear hxa hxc ho1 hom hno
              by_cases hu : o1.u = U
              case' pos =>
                have t1 : (o1.u == U) = true := by simpa using hu
                have t2 : ((o1.id : Int) == (r : Int)) = false := by have := HNO.out hu; simp; omega
                have t2n : (o1.id == r) = false := by have := HNO.out hu; simpa using this
                clear hu
              case' neg =>
                have t1 : (o1.u == U) = false := by simpa using hu
                clear hu
              all_goals
                go_wp2_with fail
                go_quiet (fail)
                go_wp2
                go_roundw
                case rel => first | exact ⟨q + 1, by omega, by go_num, hcq.drewN _⟩ | ((repeat apply Exists.intro); exact ⟨⟨q + 1, by omega, by go_num, hcq.drewN _⟩, rfl⟩)
                case measure => simp [intOf] <;> omega
            · have HBW : Hid (Bk base wr (.slice a1 L.length c1) (.slice a2 L.length c2) (.slice a3 L.length c3) L) := Lib.hid (HB5.out.chg hcq (by simp))
              have HTW := Lib.hid (HT5.out.same hcq)
              have HCW := Lib.hid (HC5.out.trans hcq)
              have hbw : base ≤ wr.heap.size := Nat.le_trans hbs5 hcq.size
              have hb1 : ∀ g, (Value.slice a1 L.length c1).ownBlock = some g → g < wr.heap.size := fun g hg => (HBW.out.a.blk g hg).2.1
              have hb2 : ∀ g, (Value.slice a2 L.length c2).ownBlock = some g → g < wr.heap.size := fun g hg => (HBW.out.b.blk g hg).2.1
              have HB1 := Lib.hid hb1
              have HB2 := Lib.hid hb2
              have HPS := Lib.hid hpS
              have Z0 : Hid (wr.drew.cell? ⟨p0, 1, none⟩ = some (.int .i64 U) ∧ wr.drew.cell? ⟨p0, 2, none⟩ = some (.int .i64 N)) := Lib.hid ⟨x1, x2⟩
              have ZW : Hid (wr.cell? ⟨p0, 1, none⟩ = some (.int .i64 U) ∧ wr.cell? ⟨p0, 2, none⟩ = some (.int .i64 N)) := Lib.hid ⟨x1, x2⟩
              have hL2 : L.length ≤ 1000 := by omega
              have hmx : L.length + 1 ≤ maxLen := by unfold maxLen; omega
              have hby : (L.length + 1) * 8 ≤ 140737488355328 := by omega
              have hby2 : (L.length + 1) * 2 ≤ 140737488355328 := by omega
              have hnb : ∀ y ∈ blkL (.slice a1 L.length c1) ++ blkL (.slice a2 L.length c2) ++ blkL (.slice a3 L.length c3), y ∈ ([] : List Nat) ∨ w.heap.size ≤ y := by
                intro y hy
                rw [List.mem_append, List.mem_append, mem_blkL, mem_blkL, mem_blkL] at hy
                right
                rcases hy with (hy | hy) | hy
                · have := (HBW.out.a.blk y hy).1; omega
                · have := (HBW.out.b.blk y hy).1; omega
                · have := (HBW.out.c.blk y hy).1; omega
              have HNB := Lib.hid hnb
              clear hb1 hb2 hpS y1 y2 x1 x2 hcq HB5 HT5 HC5 HFREE hbs5 hpF hnb
              go_wp2_with fail
              apply wp_any9 (A := fun g1 k1 g2 k2 g3 k3 y1 y2 y3 => { tmps := #[Value.int IntKind.i64 x, Value.int IntKind.u64 ↑seed, Value.slice fa l.length fcap, Value.slice (some { block := g, off := o }) acts.length cap, undef, undef, undef, undef, u8, Value.pointer (some { block := tb, off := 0 }), Value.pointer (some { block := b, off := 0 }), Value.int IntKind.i64 ↑n, Value.slice (some { block := g1, off := 0 }) (L.length + 1) k1, Value.slice (some { block := g2, off := 0 }) (L.length + 1) k2, Value.slice (some { block := g3, off := 0 }) (L.length + 1) k3, Value.int IntKind.i64 ↑j, Value.pointer (some { block := p0, off := 0 }), Value.int IntKind.u16 ↑r, Value.int IntKind.i64 0, Value.int IntKind.i64 ↑q, u20, u21, u22, u23, u24, undef, undef, undef, undef, undef, Value.slice (some { block := g, off := o }) acts.length cap, Value.int IntKind.i64 ↑acts.length, Value.bool false, Value.bool false, Value.slice fa l.length fcap, Value.int IntKind.i64 ↑l.length, Value.bool false, Value.bool false, Value.bool false, Value.bool true, Value.bool false, Value.bool false, undef, Value.tuple #[Value.pointer (some { block := tb, off := 0 }), Value.pointer (some { block := b, off := 0 }), Value.int IntKind.i64 ↑n], Value.int IntKind.i64 x, Value.int IntKind.u64 ↑seed, Value.slice fa l.length fcap, Value.tuple #[Value.pointer (some { block := tb, off := 0 }), Value.pointer (some { block := b, off := 0 }), Value.int IntKind.i64 ↑n], Value.pointer (some { block := tb, off := 0 }), Value.pointer (some { block := b, off := 0 }), Value.int IntKind.i64 ↑n, Value.int IntKind.i64 ↑j, Value.slice (some { block := g, off := o }) acts.length cap, Value.int IntKind.i64 ↑acts.length, Value.bool true, u55, u56, Value.slice (some { block := g, off := o }) acts.length cap, Value.int IntKind.i64 ↑j, Value.pointer (some { block := g, off := o + j * 3 }), Value.agg #[Value.int IntKind.u8 0, Value.int IntKind.i64 U, Value.int IntKind.i64 N], Value.pointer (some { block := p0, off := 0 }), Value.int IntKind.u8 0, Value.bool true, Value.tuple #[Value.int IntKind.u16 ↑r, Value.int IntKind.i64 0], Value.pointer (some { block := tb, off := 0 }), Value.pointer (some { block := p0, off := 1 }), Value.int IntKind.i64 U, Value.pointer (some { block := p0, off := 2 }), Value.int IntKind.i64 N, Value.pointer (some { block := b, off := 0 }), Value.tuple #[Value.int IntKind.u16 ↑r, Value.int IntKind.i64 0], Value.int IntKind.u16 ↑r, Value.int IntKind.i64 0, Value.int IntKind.i64 0, Value.bool false, Value.int IntKind.i64 ↑q, Value.slice a3 L.length c3, Value.int IntKind.i64 ↑L.length, Value.bool false, u80, u81, u82, u83, u84, u85, u86, u87, u88, u89, u90, u91, u92, u93, u94, u95, u96, Value.slice a1 L.length c1, Value.pointer (some { block := p0, off := 1 }), Value.int IntKind.i64 U, y1, Value.slice (some { block := g1, off := 0 }) (L.length + 1) k1, Value.slice a2 L.length c2, Value.pointer (some { block := p0, off := 2 }), Value.int IntKind.i64 N, y2, Value.slice (some { block := g2, off := 0 }) (L.length + 1) k2, Value.slice a3 L.length c3, Value.int IntKind.u16 ↑r, y3, Value.slice (some { block := g3, off := 0 }) (L.length + 1) k3, u111, u112, u113, u114, u115, u116, u117, u118, u119, u120, u121, u122, u123, u124, u125, u126, u127, u128, u129, u130, u131, u132, u133, u134, u135, u136, u137, u138, u139, u140, u141, u142, u143, u144, u145, u146, u147, u148, u149, u150, u151, u152, u153, u154, u155, u156, u157, u158, u159, u160, u161, u162, u163, u164, u165, u166, u167, u168, u169, u170, u171, u172, u173, u174, u175, u176, u177, u178, u179, u180, u181, undef, undef, undef, undef, undef, undef, undef, undef, undef, undef, undef, undef, undef, undef, undef, undef, undef, undef, undef, undef, undef, undef, undef, undef, undef, undef, undef, undef, undef, undef, undef, undef, undef, undef, undef, undef, undef, undef, undef, undef, undef, undef, undef, undef, undef, undef, undef], defers := [] }) (T := fun g1 k1 g2 k2 g3 k3 w3 => Bk base w3 (.slice (some ⟨g1, 0, none⟩) (L.length + 1) k1) (.slice (some ⟨g2, 0, none⟩) (L.length + 1) k2) (.slice (some ⟨g3, 0, none⟩) (L.length + 1) k3) (L ++ [⟨U, N, r⟩]) ∧ TT w3 tb ms n b seed l ⟨L', k'⟩ ∧ Chg [] w w3 ∧ base ≤ w3.heap.size)
              case h =>
                as_aux_lemma =>
                  go_region_held3 (fun W => W.cell? ⟨p0, 1, none⟩ = some (.int .i64 U) ∧ W.cell? ⟨p0, 2, none⟩ = some (.int .i64 N)) (repeat (first | (with_reducible exact Z0.out) | (with_reducible exact Z3.out) | (with_reducible exact Z2.out) | (with_reducible exact Z1.out) | (with_reducible exact ZW.out) | refine zc_drew ?_ | refine zc_alloc ?_ _)) (first | (refine step_append_lies (o := ⟨some 101, _, _, _, _, _⟩) _ (by rfl) (.tmp 97) (.tmp 100) 30 (by rfl) base 3 i0 (.int .i64 0) 1 8 Try.underlying30 hi0 hz0 hz1 hz2 rfl (by omega) (.slice a1 L.length c1) _ _ (by rfl) (R.OwnR.same HBW.out.a (by repeat (first | (with_reducible exact Chg.refl _ _) | (with_reducible exact (Chg.refl _ _).drew) | (with_reducible refine Chg.alloc ?_ _) | (with_reducible refine Chg.drew ?_)))) ⟨_, 0, none⟩ 1 1 (uV ⟨U, N, r⟩) (by rfl) (by rfl) (news1 (by repeat (first | ((with_reducible refine heap_new' _ _ _ ?_); (first | rfl | (simp; done))) | (with_reducible refine heap_drew ?_) | (with_reducible refine heap_old ?_)))) (by simp [uV, Value.oneCell']) (by omega) hmx hby (by first | omega | (simp; omega) | (simp; done)) _ rfl ?_; intro g1 k1 w1 ho1 hg1 ha1 hl1; obtain ⟨q1, o2, o3⟩ := aft1 HBW.out (by repeat (first | (with_reducible exact Chg.refl _ _) | (with_reducible exact (Chg.refl _ _).drew) | (with_reducible refine Chg.alloc ?_ _) | (with_reducible refine Chg.drew ?_))) hg1; have s1 := q1.size; have Z1 := Lib.hid ((And.intro (q1.cell ZW.out.1 HPS.out) (q1.cell ZW.out.2 HPS.out))); have O2 := Lib.hid o2; have O3 := Lib.hid o3; clear o2 o3) | (refine step_append_lies (o := ⟨some 106, _, _, _, _, _⟩) _ (by rfl) (.tmp 102) (.tmp 105) 30 (by rfl) base 3 i0 (.int .i64 0) 1 8 Try.underlying30 hi0 hz0 hz1 hz2 rfl (by omega) (.slice a2 L.length c2) _ _ (by rfl) (R.OwnR.same O2.out (by repeat (first | (with_reducible exact Chg.refl _ _) | (with_reducible exact (Chg.refl _ _).drew) | (with_reducible refine Chg.alloc ?_ _) | (with_reducible refine Chg.drew ?_)))) ⟨_, 0, none⟩ 1 1 (sV ⟨U, N, r⟩) (by rfl) (by rfl) (news1 (by repeat (first | ((with_reducible refine heap_new' _ _ _ ?_); (first | rfl | (simp; done))) | (with_reducible refine heap_drew ?_) | (with_reducible refine heap_old ?_) | ((with_reducible refine R.grown_at hg1 ?_ ?_); rotate_left; (intro e; exact absurd (HB1.out _ e) (by first | omega | (simp; omega) | (simp; done))))))) (by simp [sV, Value.oneCell']) (by omega) hmx hby (by first | omega | (simp; omega) | (simp; done)) _ rfl ?_; intro g2 k2 w2 ho2 hg2 ha2 hl2; obtain ⟨q2, o4⟩ := aft2 HBW.out q1 O3.out (by repeat (first | (with_reducible exact Chg.refl _ _) | (with_reducible exact (Chg.refl _ _).drew) | (with_reducible refine Chg.alloc ?_ _) | (with_reducible refine Chg.drew ?_))) hg2; have s2 := q2.size; have Z2 := Lib.hid ((And.intro (q2.cell ZW.out.1 HPS.out) (q2.cell ZW.out.2 HPS.out))); have O4 := Lib.hid o4; clear o4) | (refine step_append_lies (o := ⟨some 110, _, _, _, _, _⟩) _ (by rfl) (.tmp 107) (.tmp 109) 31 (by rfl) base 34 j0 (.int .u16 0) 1 2 Try.underlying31 hj0 hy0 hy1 hy2 rfl (by omega) (.slice a3 L.length c3) _ _ (by rfl) (R.OwnR.same O4.out (by repeat (first | (with_reducible exact Chg.refl _ _) | (with_reducible exact (Chg.refl _ _).drew) | (with_reducible refine Chg.alloc ?_ _) | (with_reducible refine Chg.drew ?_)))) ⟨_, 0, none⟩ 1 1 (iV ⟨U, N, r⟩) (by rfl) (by rfl) (news1 (by repeat (first | ((with_reducible refine heap_new' _ _ _ ?_); (first | rfl | (simp; done))) | (with_reducible refine heap_drew ?_) | (with_reducible refine heap_old ?_) | ((with_reducible refine R.grown_at hg1 ?_ ?_); rotate_left; (intro e; exact absurd (HB1.out _ e) (by first | omega | (simp; omega) | (simp; done)))) | ((with_reducible refine R.grown_at hg2 ?_ ?_); rotate_left; (intro e; exact absurd (HB2.out _ e) (by first | omega | (simp; omega) | (simp; done))))))) (by simp [iV, Value.oneCell']) (by omega) hmx hby2 (by first | omega | (simp; omega) | (simp; done)) _ rfl ?_; intro g3 k3 w3 ho3 hg3 ha3 hl3; have q3 := aft3 HBW.out q2 (by repeat (first | (with_reducible exact Chg.refl _ _) | (with_reducible exact (Chg.refl _ _).drew) | (with_reducible refine Chg.alloc ?_ _) | (with_reducible refine Chg.drew ?_))) hg3; have s3 := q3.size; have Z3 := Lib.hid ((And.intro (q3.cell ZW.out.1 HPS.out) (q3.cell ZW.out.2 HPS.out)))))
                  · obtain ⟨hBN, hCN⟩ := bk_step HBW.out (by repeat (first | (with_reducible exact Chg.refl _ _) | (with_reducible exact (Chg.refl _ _).drew) | (with_reducible refine Chg.alloc ?_ _) | (with_reducible refine Chg.drew ?_))) hg1 ho1 ha1 hl1 (by repeat (first | (with_reducible exact Chg.refl _ _) | (with_reducible exact (Chg.refl _ _).drew) | (with_reducible refine Chg.alloc ?_ _) | (with_reducible refine Chg.drew ?_))) hg2 ho2 ha2 hl2 (by repeat (first | (with_reducible exact Chg.refl _ _) | (with_reducible exact (Chg.refl _ _).drew) | (with_reducible refine Chg.alloc ?_ _) | (with_reducible refine Chg.drew ?_))) hg3 ho3 ha3
                    have hT9 := HTW.out.ev hCN HBW.out.ev
                    have hC9 := HCW.out.trans_new hCN HNB.out
                    have hb9 := Nat.le_trans hbw hCN.size
                    clear hg1 hg2 hg3 ho1 ho2 ho3 ha1 ha2 ha3 hl1 hl2 hl3
                    generalize (Value.slice (some ⟨_, 0, none⟩) 1 1) = y1
                    generalize (Value.slice (some ⟨_, 0, none⟩) 1 1) = y2
                    generalize (Value.slice (some ⟨_, 0, none⟩) 1 1) = y3
                    exact ⟨g1, k1, g2, k2, g3, k3, y1, y2, y3, rfl, hBN, hT9, hC9, hb9⟩
                  all_goals
                    obtain ⟨hBN, hCN⟩ := bk_step HBW.out (by repeat (first | (with_reducible exact Chg.refl _ _) | (with_reducible exact (Chg.refl _ _).drew) | (with_reducible refine Chg.alloc ?_ _) | (with_reducible refine Chg.drew ?_))) hg1 ho1 ha1 hl1 (by repeat (first | (with_reducible exact Chg.refl _ _) | (with_reducible exact (Chg.refl _ _).drew) | (with_reducible refine Chg.alloc ?_ _) | (with_reducible refine Chg.drew ?_))) hg2 ho2 ha2 hl2 (by repeat (first | (with_reducible exact Chg.refl _ _) | (with_reducible exact (Chg.refl _ _).drew) | (with_reducible refine Chg.alloc ?_ _) | (with_reducible refine Chg.drew ?_))) hg3 ho3 ha3
                    exact ⟨_, _, _, _, _, _, _, _, _, rfl, hBN, HTW.out.ev hCN HBW.out.ev, HCW.out.trans_new hCN HNB.out, Nat.le_trans hbw hCN.size⟩
              case k =>
                rintro g1 k1 g2 k2 g3 k3 y1 y2 y3 w3 ⟨hBN, hTN, hCWN, hbN⟩
                have HBN := Lib.hid hBN
                have HTN := Lib.hid hTN
                clear hBN hTN
                go_wp2
                go_roundw
                case rel => exact ⟨j + 1, ⟨L', k'⟩, by omega, by go_num, HTN.out, by rw [HLL.out]; exact HBN.out, hCWN, hbN, by simp only; rw [HLL.out]; simp; omega, hkl⟩
                case measure => simp [intOf] <;> omega
      · have t0 : ((K : Int) == 0) = false := by simp; omega
        go_wp2_with fail
        rw [← hp0]
        refine calls_abs ?_
        intro w0 hw0
        have z0 : w0.cell? ⟨p0, 0, none⟩ = some (.int .u8 (K : Nat)) := by rw [hw0, hp0]; exact cell_of (heap_new _ _)
        have z1 : w0.cell? ⟨p0, 1, none⟩ = some (.int .i64 U) := by rw [hw0, hp0]; exact cell_of (heap_new _ _)
        have z2 : w0.cell? ⟨p0, 2, none⟩ = some (.int .i64 N) := by rw [hw0, hp0]; exact cell_of (heap_new _ _)
        have hc0 : Chg [] wr w0 := by rw [hw0]; exact (Chg.refl _ _).alloc _
        have hT0 := hT.same hc0
        have hB0 := hB.chg hc0 (by simp)
        have hC0 := hC.trans hc0
        have hbs0 : base ≤ w0.heap.size := Nat.le_trans hbs hc0.size
        clear hw0 hp0 e0 e1 e2 hT hB hC hc0 hbs
        refine (does_any tb ms n b seed l ⟨L, k⟩ ⟨L.filter (keepU K U N), k⟩ ⟨K, U, N⟩ w0 hT0 (by simp only; omega) (by simp only; omega) (Lib.hid (keepU_do (st := ⟨L, k⟩) hK0).symm)).mono ?_
        rintro e9 w5 ⟨rfl, hT5, hc5⟩
        have hB5 := hB0.chg hc5 HLT2.out
        have hC5 := hC0.trans_new hc5 (fun y hy => .inr (HLO.out y hy))
        have y0 := hc5.cell (p := ⟨p0, 0, none⟩) z0 hpF
        have y1 := hc5.cell (p := ⟨p0, 1, none⟩) z1 hpF
        have y2 := hc5.cell (p := ⟨p0, 2, none⟩) z2 hpF
        have hbs5 : base ≤ w5.heap.size := Nat.le_trans hbs0 hc5.size
        obtain ⟨b2, hb2e⟩ : ∃ b2, b2 = w5.heap.size := ⟨_, rfl⟩
        have hbb : base ≤ b2 := by omega
        have HB5 := Lib.hid hB5
        have HT5 := Lib.hid hT5
        have HC5 := Lib.hid hC5
        have HB2 := Lib.hid hb2e
        have HK0 := Lib.hid hK0
        clear z0 z1 z2 hT0 hB0 hC0 hc5 hB5 hT5 hC5 hb2e hbs0 hK0
        go_wp2_with fail
        go_loopw [20, 21, 22, 23] (UnK b2 L (keepU K U N) w5) (fun _ _ _ i _ => L.length - (intOf i).toNat)
        case atStart => exact ⟨0, Nat.zero_le _, rfl, Bk.nil _ _, Chg.refl _ _⟩
        case round =>
          obtain ⟨q, hq, rfl, hBk, hcq⟩ := hrel
          obtain ⟨d1, m1, rfl⟩ := hBk.a.len
          obtain ⟨d2, m2, rfl⟩ := hBk.b.len
          obtain ⟨d3, m3, rfl⟩ := hBk.c.len
          obtain ⟨M, hM⟩ : ∃ M, M = (L.take q).filter (keepU K U N) := ⟨_, rfl⟩
          rw [← hM] at hBk ⊢
          have hMl : M.length ≤ q := by rw [hM]; exact Nat.le_trans (List.length_filter_le _ _) (by simp; omega)
          have x0 := hcq.cell y0 (by simp)
          have x1 := hcq.cell y1 (by simp)
          have x2 := hcq.cell y2 (by simp)
          by_cases hlq : q < L.length
          · obtain ⟨ga, ca, hva, _, _, hxa⟩ := HB5.out.a.cells uV_len (by omega)
            obtain ⟨gb, cb, hvb, _, _, hxb⟩ := HB5.out.b.cells sV_len (by omega)
            obtain ⟨gc, cc, hvc, _, _, hxc⟩ := HB5.out.c.cells iV_len (by omega)
            have hva1 := (Value.slice.inj hva).1
            have hvb1 := (Value.slice.inj hvb).1
            have hvc1 := (Value.slice.inj hvc).1
            clear hva hvb hvc
            subst hva1
            subst hvb1
            subst hvc1
            obtain ⟨o1, ho1⟩ : ∃ o1, o1 = L[q] := ⟨_, rfl⟩
            have f1 := hcq.cell (hxa q hlq 0 (.int .i64 o1.u) (by rw [← ho1]; rfl)) (by simp)
            have f2 := hcq.cell (hxb q hlq 0 (.int .i64 o1.slot) (by rw [← ho1]; rfl)) (by simp)
            have f3 := hcq.cell (hxc q hlq 0 (.int .u16 (o1.id : Nat)) (by rw [← ho1]; rfl)) (by simp)
            rw [Nat.mul_one, Nat.add_zero] at f1 f2 f3
            have htk : L.take (q + 1) = L.take q ++ [o1] := by rw [List.take_succ_eq_append_getElem hlq, ← ho1]
            obtain ⟨kp, hkp⟩ : ∃ kp, kp = keepU K U N o1 := ⟨_, rfl⟩
            have hnew : (L.take (q + 1)).filter (keepU K U N) = if kp then M ++ [o1] else M := by
              rw [htk, List.filter_append, ← hM, List.filter_cons, ← hkp]
              cases kp <;> simp
            have HNEW := Lib.hid hnew
            have HKP := Lib.hid hkp
            have HM := Lib.hid hM
            have HBK := Lib.hid hBk
            have HCQ := Lib.hid hcq
            clear hxa hxb hxc ho1 htk hkp hnew hM hBk hcq
            go_upto_region 25 with fail
            go_cut [24] from 115 to 178 (fun v wx => v = .bool (!kp) ∧ Chg [] wr wx)
            case first =>
              by_cases a1 : K = 1
              · have t1 : ((K : Int) == 1) = true := by simp; omega
                by_cases a2 : o1.slot = N
                · have t2 : (o1.slot == N) = true := by simpa using a2
                  have ek : kp = false := by rw [HKP.out]; simp [keepU, a1, a2]
                  subst ek
                  clear a1 a2
                  go_quiet (fail)
                  go_wp2_with fail
                  go_meet
                  exact ⟨rfl, (Chg.refl _ _).drewN _⟩
                · have t2 : (o1.slot == N) = false := by simpa using a2
                  have t3 : ((K : Int) == 2) = false := by simp; omega
                  have ek : kp = true := by rw [HKP.out]; simp [keepU, a1, a2]
                  subst ek
                  clear a1 a2
                  go_quiet (fail)
                  go_wp2_with fail
                  go_meet
                  exact ⟨rfl, (Chg.refl _ _).drewN _⟩
              · have t1 : ((K : Int) == 1) = false := by simp; omega
                by_cases a3 : K = 2
                · have t3 : ((K : Int) == 2) = true := by simp; omega
                  by_cases a2 : o1.slot = N
                  · have t2 : (o1.slot == N) = true := by simpa using a2
                    by_cases a4 : o1.u = U
                    · have t4 : (o1.u == U) = true := by simpa using a4
                      have ek : kp = false := by rw [HKP.out]; simp [keepU, a3, a2, a4]
                      subst ek
                      clear a1 a2 a3 a4
                      go_quiet (fail)
                      go_wp2_with fail
                      go_meet
                      exact ⟨rfl, (Chg.refl _ _).drewN _⟩
                    · have t4 : (o1.u == U) = false := by simpa using a4
                      have ek : kp = true := by rw [HKP.out]; simp [keepU, a3, a2, a4]
                      subst ek
                      clear a1 a2 a3 a4
                      go_quiet (fail)
                      go_wp2_with fail
                      go_meet
                      exact ⟨rfl, (Chg.refl _ _).drewN _⟩
                  · have t2 : (o1.slot == N) = false := by simpa using a2
                    have ek : kp = true := by rw [HKP.out]; simp [keepU, a3, a2]
                    subst ek
                    clear a1 a2 a3
                    go_quiet (fail)
                    go_wp2_with fail
                    go_meet
                    exact ⟨rfl, (Chg.refl _ _).drewN _⟩
                · have t3 : ((K : Int) == 2) = false := by simp; omega
                  have ek : kp = true := by rw [HKP.out]; simp [keepU, a1, a3]
                  subst ek
                  clear a1 a3
                  go_quiet (fail)
                  go_wp2_with fail
                  go_meet
                  exact ⟨rfl, (Chg.refl _ _).drewN _⟩
            case rest =>
              obtain ⟨rfl, hcx⟩ := hcut
              have HBK := Lib.hid (HBK.out.chg hcx (by simp))
              have HCQ := Lib.hid (HCQ.out.trans hcx)
              have f1 := hcx.cell f1 (by simp)
              have f2 := hcx.cell f2 (by simp)
              have f3 := hcx.cell f3 (by simp)
              clear hcx x0 x1 x2
              cases kp with
              | false =>
                have hn := HNEW.out
                simp only [Bool.false_eq_true, if_false] at hn
                have HN := Lib.hid hn
                clear hn HNEW HKP f1 f2 f3
                go_wp2
                go_roundw
                case rel => exact ⟨q + 1, by omega, by go_num, by rw [HN.out]; exact HBK.out, HCQ.out⟩
                case measure => simp [intOf] <;> omega
              | true =>
                have hn := HNEW.out
                simp only [if_true] at hn
                have HN := Lib.hid hn
                clear hn HNEW HKP
                have hb1 : ∀ g, (Value.slice d1 M.length m1).ownBlock = some g → g < wc.heap.size := fun g hg => (HBK.out.a.blk g hg).2.1
                have hb2 : ∀ g, (Value.slice d2 M.length m2).ownBlock = some g → g < wc.heap.size := fun g hg => (HBK.out.b.blk g hg).2.1
                have HB1 := Lib.hid hb1
                have HB2' := Lib.hid hb2
                have hsz : b2 ≤ wc.heap.size := by have := HCQ.out.size; have := HB2.out; omega
                have YW : Hid (wc.cell? ⟨ga, q, none⟩ = some (.int .i64 o1.u) ∧ wc.cell? ⟨gb, q, none⟩ = some (.int .i64 o1.slot) ∧ wc.cell? ⟨gc, q, none⟩ = some (.int .u16 (o1.id : Nat))) := Lib.hid ⟨f1, f2, f3⟩
                have Y0 : Hid (wc.drew.cell? ⟨ga, q, none⟩ = some (.int .i64 o1.u) ∧ wc.drew.cell? ⟨gb, q, none⟩ = some (.int .i64 o1.slot) ∧ wc.drew.cell? ⟨gc, q, none⟩ = some (.int .u16 (o1.id : Nat))) := Lib.hid ⟨f1, f2, f3⟩
                have hmx : M.length + 1 ≤ maxLen := by unfold maxLen; omega
                have hby : (M.length + 1) * 8 ≤ 140737488355328 := by omega
                have hby2 : (M.length + 1) * 2 ≤ 140737488355328 := by omega
                have hlo : ∀ y ∈ blkL (.slice d1 M.length m1) ++ blkL (.slice d2 M.length m2) ++ blkL (.slice d3 M.length m3), y ∈ ([] : List Nat) ∨ w5.heap.size ≤ y := by
                  intro y hy
                  have := HB2.out
                  rw [List.mem_append, List.mem_append, mem_blkL, mem_blkL, mem_blkL] at hy
                  right
                  rcases hy with (hy | hy) | hy
                  · have := (HBK.out.a.blk y hy).1; omega
                  · have := (HBK.out.b.blk y hy).1; omega
                  · have := (HBK.out.c.blk y hy).1; omega
                have hap : ∀ y, y < b2 → y ∉ blkL (.slice d1 M.length m1) ++ blkL (.slice d2 M.length m2) ++ blkL (.slice d3 M.length m3) := by
                  intro y hy hh
                  rcases hlo y hh with e | e
                  · simp at e
                  · have := HB2.out; omega
                have hga : ga < b2 := by rw [HB2.out]; exact (HB5.out.a.blk ga rfl).2.1
                have hgb : gb < b2 := by rw [HB2.out]; exact (HB5.out.b.blk gb rfl).2.1
                have hgc : gc < b2 := by rw [HB2.out]; exact (HB5.out.c.blk gc rfl).2.1
                have HLO5 := Lib.hid hlo
                have HPA := Lib.hid (hap ga hga)
                have HPB := Lib.hid (hap gb hgb)
                have HPC := Lib.hid (hap gc hgc)
                clear hb1 hb2 hlo hap hga hgb hgc f1 f2 f3
                go_wp2_with fail
                apply wp_any9 (A := fun g1 k1 g2 k2 g3 k3 y1 y2 y3 => { tmps := #[Value.int IntKind.i64 x, Value.int IntKind.u64 ↑seed, Value.slice fa l.length fcap, Value.slice (some { block := g, off := o }) acts.length cap, undef, undef, undef, undef, u8, Value.pointer (some { block := tb, off := 0 }), Value.pointer (some { block := b, off := 0 }), Value.int IntKind.i64 ↑n, Value.slice (some { block := ga, off := 0 }) L.length c1, Value.slice (some { block := gb, off := 0 }) L.length c2, Value.slice (some { block := gc, off := 0 }) L.length c3, Value.int IntKind.i64 ↑j, Value.pointer (some { block := p0, off := 0 }), u17, u18, u19, Value.slice (some { block := g1, off := 0 }) (M.length + 1) k1, Value.slice (some { block := g2, off := 0 }) (M.length + 1) k2, Value.slice (some { block := g3, off := 0 }) (M.length + 1) k3, Value.int IntKind.i64 ↑q, Value.bool false, undef, undef, undef, undef, undef, Value.slice (some { block := g, off := o }) acts.length cap, Value.int IntKind.i64 ↑acts.length, Value.bool false, Value.bool false, Value.slice fa l.length fcap, Value.int IntKind.i64 ↑l.length, Value.bool false, Value.bool false, Value.bool false, Value.bool true, Value.bool false, Value.bool false, undef, Value.tuple #[Value.pointer (some { block := tb, off := 0 }), Value.pointer (some { block := b, off := 0 }), Value.int IntKind.i64 ↑n], Value.int IntKind.i64 x, Value.int IntKind.u64 ↑seed, Value.slice fa l.length fcap, Value.tuple #[Value.pointer (some { block := tb, off := 0 }), Value.pointer (some { block := b, off := 0 }), Value.int IntKind.i64 ↑n], Value.pointer (some { block := tb, off := 0 }), Value.pointer (some { block := b, off := 0 }), Value.int IntKind.i64 ↑n, Value.int IntKind.i64 ↑j, Value.slice (some { block := g, off := o }) acts.length cap, Value.int IntKind.i64 ↑acts.length, Value.bool true, u55, u56, Value.slice (some { block := g, off := o }) acts.length cap, Value.int IntKind.i64 ↑j, Value.pointer (some { block := g, off := o + j * 3 }), Value.agg #[Value.int IntKind.u8 ↑K, Value.int IntKind.i64 U, Value.int IntKind.i64 N], Value.pointer (some { block := p0, off := 0 }), Value.int IntKind.u8 ↑K, Value.bool false, u64, u65, u66, u67, u68, u69, u70, u71, u72, u73, u74, u75, u76, u77, u78, u79, u80, u81, u82, u83, u84, u85, u86, u87, u88, u89, u90, u91, u92, u93, u94, u95, u96, u97, u98, u99, u100, u101, u102, u103, u104, u105, u106, u107, u108, u109, u110, Value.pointer (some { block := tb, off := 0 }), Value.agg #[Value.int IntKind.u8 ↑K, Value.int IntKind.i64 U, Value.int IntKind.i64 N], Value.pointer (some { block := b, off := 0 }), Value.tuple #[], u115, u116, u117, u118, u119, u120, u121, u122, u123, u124, u125, u126, u127, u128, u129, u130, u131, u132, u133, u134, u135, u136, u137, u138, u139, u140, u141, u142, u143, u144, u145, u146, u147, u148, u149, u150, u151, u152, u153, u154, u155, Value.bool false, Value.bool true, Value.slice d1 M.length m1, Value.slice (some { block := ga, off := 0 }) L.length c1, Value.int IntKind.i64 ↑q, Value.pointer (some { block := ga, off := q }), Value.int IntKind.i64 o1.u, y1, Value.slice (some { block := g1, off := 0 }) (M.length + 1) k1, Value.slice d2 M.length m2, Value.slice (some { block := gb, off := 0 }) L.length c2, Value.int IntKind.i64 ↑q, Value.pointer (some { block := gb, off := q }), Value.int IntKind.i64 o1.slot, y2, Value.slice (some { block := g2, off := 0 }) (M.length + 1) k2, Value.slice d3 M.length m3, Value.slice (some { block := gc, off := 0 }) L.length c3, Value.int IntKind.i64 ↑q, Value.pointer (some { block := gc, off := q }), Value.int IntKind.u16 ↑o1.id, y3, Value.slice (some { block := g3, off := 0 }) (M.length + 1) k3, u179, u180, u181, undef, undef, undef, undef, undef, undef, undef, undef, undef, undef, undef, undef, undef, undef, undef, undef, undef, undef, undef, undef, undef, undef, undef, undef, undef, undef, undef, undef, undef, undef, undef, undef, undef, undef, undef, undef, undef, undef, undef, undef, undef, undef, undef, undef, undef, undef, undef], defers := [] }) (T := fun g1 k1 g2 k2 g3 k3 w3 => Bk b2 w3 (.slice (some ⟨g1, 0, none⟩) (M.length + 1) k1) (.slice (some ⟨g2, 0, none⟩) (M.length + 1) k2) (.slice (some ⟨g3, 0, none⟩) (M.length + 1) k3) (M ++ [o1]) ∧ Chg [] w5 w3)
                case h =>
                  as_aux_lemma =>
                    go_region_held3 (fun W => W.cell? ⟨ga, q, none⟩ = some (.int .i64 o1.u) ∧ W.cell? ⟨gb, q, none⟩ = some (.int .i64 o1.slot) ∧ W.cell? ⟨gc, q, none⟩ = some (.int .u16 (o1.id : Nat))) (repeat (first | (with_reducible exact Y0.out) | (with_reducible exact Z3.out) | (with_reducible exact Z2.out) | (with_reducible exact Z1.out) | (with_reducible exact YW.out) | refine zc3_drew ?_ | refine zc3a ?_ _)) (first | (refine step_append_lies (o := ⟨some 164, _, _, _, _, _⟩) _ (by rfl) (.tmp 158) (.tmp 163) 30 (by rfl) b2 3 i0 (.int .i64 0) 1 8 Try.underlying30 hi0 hz0 hz1 hz2 rfl (by omega) (.slice d1 M.length m1) _ _ (by rfl) (R.OwnR.same HBK.out.a (by repeat (first | (with_reducible exact Chg.refl _ _) | (with_reducible exact (Chg.refl _ _).drew) | (with_reducible refine Chg.alloc ?_ _) | (with_reducible refine Chg.drew ?_)))) ⟨_, 0, none⟩ 1 1 (uV o1) (by rfl) (by rfl) (news1 (by repeat (first | ((with_reducible refine heap_new' _ _ _ ?_); (first | rfl | (simp; done))) | (with_reducible refine heap_drew ?_) | (with_reducible refine heap_old ?_)))) (by simp [uV, Value.oneCell']) (by omega) hmx hby (by first | omega | (simp; omega) | (simp; done)) _ rfl ?_; intro g1 k1 w1 ho1 hg1 ha1 hl1; obtain ⟨q1, o2, o3⟩ := aft1 HBK.out (by repeat (first | (with_reducible exact Chg.refl _ _) | (with_reducible exact (Chg.refl _ _).drew) | (with_reducible refine Chg.alloc ?_ _) | (with_reducible refine Chg.drew ?_))) hg1; have s1 := q1.size; have Z1 := Lib.hid ((And.intro (q1.cell YW.out.1 HPA.out) (And.intro (q1.cell YW.out.2.1 HPB.out) (q1.cell YW.out.2.2 HPC.out)))); have O2 := Lib.hid o2; have O3 := Lib.hid o3; clear o2 o3) | (refine step_append_lies (o := ⟨some 171, _, _, _, _, _⟩) _ (by rfl) (.tmp 165) (.tmp 170) 30 (by rfl) b2 3 i0 (.int .i64 0) 1 8 Try.underlying30 hi0 hz0 hz1 hz2 rfl (by omega) (.slice d2 M.length m2) _ _ (by rfl) (R.OwnR.same O2.out (by repeat (first | (with_reducible exact Chg.refl _ _) | (with_reducible exact (Chg.refl _ _).drew) | (with_reducible refine Chg.alloc ?_ _) | (with_reducible refine Chg.drew ?_)))) ⟨_, 0, none⟩ 1 1 (sV o1) (by rfl) (by rfl) (news1 (by repeat (first | ((with_reducible refine heap_new' _ _ _ ?_); (first | rfl | (simp; done))) | (with_reducible refine heap_drew ?_) | (with_reducible refine heap_old ?_) | ((with_reducible refine R.grown_at hg1 ?_ ?_); rotate_left; (intro e; exact absurd (HB1.out _ e) (by first | omega | (simp; omega) | (simp; done))))))) (by simp [sV, Value.oneCell']) (by omega) hmx hby (by first | omega | (simp; omega) | (simp; done)) _ rfl ?_; intro g2 k2 w2 ho2 hg2 ha2 hl2; obtain ⟨q2, o4⟩ := aft2 HBK.out q1 O3.out (by repeat (first | (with_reducible exact Chg.refl _ _) | (with_reducible exact (Chg.refl _ _).drew) | (with_reducible refine Chg.alloc ?_ _) | (with_reducible refine Chg.drew ?_))) hg2; have s2 := q2.size; have Z2 := Lib.hid ((And.intro (q2.cell YW.out.1 HPA.out) (And.intro (q2.cell YW.out.2.1 HPB.out) (q2.cell YW.out.2.2 HPC.out)))); have O4 := Lib.hid o4; clear o4) | (refine step_append_lies (o := ⟨some 178, _, _, _, _, _⟩) _ (by rfl) (.tmp 172) (.tmp 177) 31 (by rfl) b2 34 j0 (.int .u16 0) 1 2 Try.underlying31 hj0 hy0 hy1 hy2 rfl (by omega) (.slice d3 M.length m3) _ _ (by rfl) (R.OwnR.same O4.out (by repeat (first | (with_reducible exact Chg.refl _ _) | (with_reducible exact (Chg.refl _ _).drew) | (with_reducible refine Chg.alloc ?_ _) | (with_reducible refine Chg.drew ?_)))) ⟨_, 0, none⟩ 1 1 (iV o1) (by rfl) (by rfl) (news1 (by repeat (first | ((with_reducible refine heap_new' _ _ _ ?_); (first | rfl | (simp; done))) | (with_reducible refine heap_drew ?_) | (with_reducible refine heap_old ?_) | ((with_reducible refine R.grown_at hg1 ?_ ?_); rotate_left; (intro e; exact absurd (HB1.out _ e) (by first | omega | (simp; omega) | (simp; done)))) | ((with_reducible refine R.grown_at hg2 ?_ ?_); rotate_left; (intro e; exact absurd (HB2'.out _ e) (by first | omega | (simp; omega) | (simp; done))))))) (by simp [iV, Value.oneCell']) (by omega) hmx hby2 (by first | omega | (simp; omega) | (simp; done)) _ rfl ?_; intro g3 k3 w3 ho3 hg3 ha3 hl3; have q3 := aft3 HBK.out q2 (by repeat (first | (with_reducible exact Chg.refl _ _) | (with_reducible exact (Chg.refl _ _).drew) | (with_reducible refine Chg.alloc ?_ _) | (with_reducible refine Chg.drew ?_))) hg3; have s3 := q3.size; have Z3 := Lib.hid ((And.intro (q3.cell YW.out.1 HPA.out) (And.intro (q3.cell YW.out.2.1 HPB.out) (q3.cell YW.out.2.2 HPC.out))))))
                    · obtain ⟨hBN, hCN⟩ := bk_step HBK.out (by repeat (first | (with_reducible exact Chg.refl _ _) | (with_reducible exact (Chg.refl _ _).drew) | (with_reducible refine Chg.alloc ?_ _) | (with_reducible refine Chg.drew ?_))) hg1 ho1 ha1 hl1 (by repeat (first | (with_reducible exact Chg.refl _ _) | (with_reducible exact (Chg.refl _ _).drew) | (with_reducible refine Chg.alloc ?_ _) | (with_reducible refine Chg.drew ?_))) hg2 ho2 ha2 hl2 (by repeat (first | (with_reducible exact Chg.refl _ _) | (with_reducible exact (Chg.refl _ _).drew) | (with_reducible refine Chg.alloc ?_ _) | (with_reducible refine Chg.drew ?_))) hg3 ho3 ha3
                      have hC9 := HCQ.out.trans_new hCN HLO5.out
                      clear hg1 hg2 hg3 ho1 ho2 ho3 ha1 ha2 ha3 hl1 hl2 hl3
                      generalize (Value.slice (some ⟨_, 0, none⟩) 1 1) = y1
                      generalize (Value.slice (some ⟨_, 0, none⟩) 1 1) = y2
                      generalize (Value.slice (some ⟨_, 0, none⟩) 1 1) = y3
                      exact ⟨g1, k1, g2, k2, g3, k3, y1, y2, y3, rfl, hBN, hC9⟩
                    all_goals
                      obtain ⟨hBN, hCN⟩ := bk_step HBK.out (by repeat (first | (with_reducible exact Chg.refl _ _) | (with_reducible exact (Chg.refl _ _).drew) | (with_reducible refine Chg.alloc ?_ _) | (with_reducible refine Chg.drew ?_))) hg1 ho1 ha1 hl1 (by repeat (first | (with_reducible exact Chg.refl _ _) | (with_reducible exact (Chg.refl _ _).drew) | (with_reducible refine Chg.alloc ?_ _) | (with_reducible refine Chg.drew ?_))) hg2 ho2 ha2 hl2 (by repeat (first | (with_reducible exact Chg.refl _ _) | (with_reducible exact (Chg.refl _ _).drew) | (with_reducible refine Chg.alloc ?_ _) | (with_reducible refine Chg.drew ?_))) hg3 ho3 ha3
                      exact ⟨_, _, _, _, _, _, _, _, _, rfl, hBN, HCQ.out.trans_new hCN HLO5.out⟩
  
                case k =>
                  rintro g1 k1 g2 k2 g3 k3 y1 y2 y3 w3 ⟨hBN, hCN⟩
                  have HBN := Lib.hid hBN
                  have HCN := Lib.hid hCN
                  clear hBN hCN
                  go_wp2
                  go_roundw
                  case rel => exact ⟨q + 1, by omega, by go_num, by rw [HN.out]; exact HBN.out, HCN.out⟩
                  case measure => simp [intOf] <;> omega
          · obtain rfl : q = L.length := by omega
            have hMe : M = L.filter (keepU K U N) := by rw [hM, List.take_of_length_le (Nat.le_refl _)]
            have HME := Lib.hid hMe
            have HBK := Lib.hid hBk
            have hT9 := HT5.out.same hcq
            have hC9 := HC5.out.trans hcq
            have hs9 : base ≤ wr.heap.size := Nat.le_trans hbs5 hcq.size
            rw [← hMe] at hT9
            have HT9 := Lib.hid hT9
            clear hM hMe hBk hcq x0 x1 x2 hT9
            go_wp2
            go_roundw
            case rel => exact ⟨j + 1, ⟨M, k⟩, by omega, by go_num, HT9.out, HBK.out.low hbb, hC9, hs9, by simp only; omega, by simp only; omega⟩
            case measure => simp [intOf] <;> omega
    · obtain rfl : j = acts.length := by omega
      have HT := Lib.hid hT
      have HB := Lib.hid hB
      have HC := Lib.hid hC
      have HOK := Lib.hid hT.tab.ok
      obtain ⟨wE, hwE⟩ : ∃ wE : World, wE = wr := ⟨_, rfl⟩
      rw [← hwE] at HT HB HC ⊢
      clear hwE hT hB hC hlt
      go_wp2_with fail
      go_loopw [25] (fun i wr => ∃ u : Nat, u ≤ n ∧ i = .int .i64 (u : Nat) ∧ Chg [] wE wr) (fun i _ => n - (intOf i).toNat)
      case atStart => exact ⟨0, Nat.zero_le _, rfl, Chg.refl _ _⟩
      case round =>
        obtain ⟨u, hu, rfl, hcu⟩ := hrel
        by_cases hun : u < n
        · have HCU := Lib.hid hcu
          obtain ⟨wU, hwU⟩ : ∃ wU : World, wU = wr := ⟨_, rfl⟩
          rw [← hwU] at HCU ⊢
          clear hwU hcu
          go_wp2_with fail
          go_loopw [26, 27] (fun m i wr => ∃ q c : Nat, q ≤ L.length ∧ i = .int .i64 (q : Nat) ∧ m = .int .i64 (c : Nat) ∧ Hid (c = lenO (L.take q) (u : Int)) ∧ c ≤ q ∧ Chg [] wU wr) (fun _ i _ => L.length - (intOf i).toNat)
          case atStart => exact ⟨0, 0, Nat.zero_le _, rfl, rfl, Lib.hid rfl, Nat.le_refl _, Chg.refl _ _⟩
          case round =>
            obtain ⟨q, c, hq, rfl, rfl, HCN, hcq, hck⟩ := hrel
            have hall := HCU.out.trans hck
            by_cases hlq : q < L.length
            · obtain ⟨ga, ca, hva, _, _, hxa⟩ := HB.out.a.cells uV_len (by omega)
              obtain ⟨gb, cb, hvb, _, _, hxb⟩ := HB.out.b.cells sV_len (by omega)
              obtain ⟨gc, cc, hvc, _, _, hxc⟩ := HB.out.c.cells iV_len (by omega)
              have hva1 := (Value.slice.inj hva).1
              have hvb1 := (Value.slice.inj hvb).1
              have hvc1 := (Value.slice.inj hvc).1
              clear hva hvb hvc
              subst hva1
              subst hvb1
              subst hvc1
              obtain ⟨o1, ho1⟩ : ∃ o1, o1 = L[q] := ⟨_, rfl⟩
              have f1 := hall.cell (hxa q hlq 0 (.int .i64 o1.u) (by rw [← ho1]; rfl)) (by simp)
              have f2 := hall.cell (hxb q hlq 0 (.int .i64 o1.slot) (by rw [← ho1]; rfl)) (by simp)
              have f3 := hall.cell (hxc q hlq 0 (.int .u16 (o1.id : Nat)) (by rw [← ho1]; rfl)) (by simp)
              rw [Nat.mul_one, Nat.add_zero] at f1 f2 f3
              have hom : o1 ∈ L := by rw [ho1]; exact List.getElem_mem hlq
              have hsn : lenO (L.take (q + 1)) (u : Int) = if o1.u = (u : Int) then lenO (L.take q) (u : Int) + 1 else lenO (L.take q) (u : Int) := by
                rw [List.take_succ_eq_append_getElem hlq, ← ho1]
                exact lenU_snoc _ _ _
              rw [← HCN.out] at hsn
              have hPT := HT.out.tab.same hall
              have hid := HOK.out.i o1 hom
              have hat : o1.slot = atO L o1.u o1.id := (HOK.out.at hom).symm
              have hhas : true = hasO L o1.u o1.id := (hasO_iff.2 ⟨o1, hom, rfl, rfl⟩).symm
              have HSN := Lib.hid hsn
              have HPT := Lib.hid hPT
              have HAT := Lib.hid hat
              have HHAS := Lib.hid hhas
              have HID := Lib.hid hid
              have HCK := Lib.hid hck
              have S0 := Lib.hid (And.intro f1 (And.intro f2 f3))
              clear hxa hxb hxc ho1 hom hsn hPT hid hat hhas hck hall f1 f3 HCN
              go_wp2_with fail
              go_region_held3 (fun W => W.cell? ⟨ga, q, none⟩ = some (.int .i64 o1.u) ∧ W.cell? ⟨gb, q, none⟩ = some (.int .i64 o1.slot) ∧ W.cell? ⟨gc, q, none⟩ = some (.int .u16 (o1.id : Nat))) (exact S0.out) (first | (go_at_call 13; refine (find_any tb ms n L _ o1.u o1.id o1.slot true ?_ HID.out HAT HHAS).mono ?_; exact HPT.out.same ((Chg.refl [] wr).drewN _); rintro e9 w9 ⟨rfl, rfl⟩))
              have hcd : Chg [] wU wr.drew := HCK.out.drew
              have f1 := S0.out.1
              by_cases hou : o1.u = (u : Int)
              · have t1 : (o1.u == (u : Int)) = true := by simpa using hou
                have hnew : c + 1 = lenO (L.take (q + 1)) (u : Int) := by rw [HSN.out, if_pos hou]
                have HNEW := Lib.hid hnew
                clear hou hnew
                go_wp2
                go_roundw
                case rel => exact ⟨q + 1, c + 1, by omega, by go_num, by go_num, HNEW, by omega, hcd⟩
                case measure => simp [intOf] <;> omega
              · have t1 : (o1.u == (u : Int)) = false := by simpa using hou
                have hnew : c = lenO (L.take (q + 1)) (u : Int) := by rw [HSN.out, if_neg hou]
                have HNEW := Lib.hid hnew
                clear hou hnew
                go_wp2
                go_roundw
                case rel => exact ⟨q + 1, c, by omega, by go_num, rfl, HNEW, by omega, hcd⟩
                case measure => simp [intOf] <;> omega
            · obtain rfl : q = L.length := by omega
              have hc9 := HCN.out
              rw [List.take_of_length_le (Nat.le_refl _)] at hc9
              have HC9 := Lib.hid hc9
              have hPT := HT.out.tab.same hall
              clear hc9 HCN
              go_wp2_with fail
              refine (len_any tb ms n L wr (u : Int) c hPT HC9).mono ?_
              rintro e9 w9 ⟨rfl, rfl⟩
              clear hPT
              go_wp2
              go_roundw
              case rel => exact ⟨u + 1, by omega, by go_num, hall⟩
              case measure => simp [intOf] <;> omega
        · have hfin := HC.out.trans hcu
          go_wp2
          go_ret
          exact ⟨rfl, hfin.below (Nat.le_refl _) (by simp)⟩

end Go.Proofs.Yteehenajchdgaaa

