/- The walk of ReputeBounds. -/
import Derived.Test.YtjcciojbljlloaaRepTrialW
import Derived.Lib.SmallJoins
namespace Go.Proofs.Ytjcciojbljlloaa
open Go.ChangeShapes Go.WideShapes Go.Deep Go.RowKit

theorem open_act {H : Type} {enc : TypeId × Value → H} {w : World} {r : Reach} {b0 base : Nat} {spare : Nat → Bool} {held : Bool} {v : Value} {d : DataW H} {p : List MemPlace}
    (hv : Value.okWide Try.prog w r b0 29 v) (h : DataW.Trod enc Try.prog w base spare held 29 v d p) :
    ∃ A : ActT, v = .agg #[.int .u8 (A.k : Nat), .int .i64 A.u, .int .i64 A.n] ∧ A.ok := by
  obtain ⟨c0, c1, c2, y0, y1, y2, m, rfl, _, _, hy0, hy1, hy2⟩ := Go.Joins.open_agg3 Try.underlying29 (by kernel_rfl) (by kernel_rfl) hv h
  obtain ⟨n, e0, _, wn⟩ := DataW.trod_int Try.underlying5 hy0
  obtain ⟨k, e1, _, wk⟩ := DataW.trod_int Try.underlying3 hy1
  obtain ⟨q, e2, _, wq⟩ := DataW.trod_int Try.underlying2 hy2
  simp at e0 e1 e2
  subst e0; subst e1; subst e2
  have hn := nat_u8 wn
  refine ⟨⟨n.toNat, k, q⟩, ?_, by show n.toNat < 256; omega, int_i64 wk, int_i64 wq⟩
  simp only []
  rw [show ((n.toNat : Nat) : Int) = n by omega]

theorem tr_counts {L : Nat} {x y : Up} (hx : UpOk x) (h : Tr L x y) : x.agree ≤ y.agree ∧ x.dissent ≤ y.dissent ∧ x.silent ≤ y.silent := by
  have c : ∀ n, n ≤ 65535 → n ≤ cnt n := fun n hn => by unfold cnt; omega
  have lk : ∀ p : Up, (p.look L).agree = p.agree ∧ (p.look L).dissent = p.dissent ∧ (p.look L).silent = p.silent := fun p => by unfold Up.look; split <;> exact ⟨rfl, rfl, rfl⟩
  cases h with
  | same => exact ⟨Nat.le_refl _, Nat.le_refl _, Nat.le_refl _⟩
  | agree => unfold Up.agreeS; obtain ⟨a, b, d⟩ := lk { x with agree := cnt x.agree, score := min (x.score + 1) 100 }; rw [a, b, d]; exact ⟨c _ hx.2, Nat.le_refl _, Nat.le_refl _⟩
  | dis => exact ⟨Nat.le_refl _, c _ hx.3, Nat.le_refl _⟩
  | leave t _ => exact ⟨Nat.le_refl _, c _ hx.3, Nat.le_refl _⟩
  | silent => exact ⟨Nat.le_refl _, Nat.le_refl _, c _ hx.4⟩
  | ret _ => unfold Up.ret; obtain ⟨a, b, d⟩ := lk { x with rests := false, trial := true, til := 0, score := L }; rw [a, b, d]; exact ⟨Nat.le_refl _, Nat.le_refl _, Nat.le_refl _⟩

theorem modify_get {us : List Up} {f : Up → Up} {u i : Nat} (h : i < us.length) (h' : i < (us.modify u f).length) : (us.modify u f)[i] = if u = i then f us[i] else us[i] := by rw [List.getElem_modify]
theorem do_other (L R : Nat) (us : List Up) (k : Nat) (u n : Int) (hk : k < 3) (i : Nat) (h : i < us.length) (h' : i < (doB L R us k u n).length) (hu : (i : Int) ≠ u) : (doB L R us k u n)[i] = us[i] := by
  have key : ∀ vs, (hv : vs = doB L R us k u n) → (hl : i < vs.length) → vs[i] = us[i] := by
    intro vs hv hl
    have hm : ∀ f, hasB us u = true → (hl : i < (us.modify u.toNat f).length) → (us.modify u.toNat f)[i] = us[i] := by
      intro f hh hl
      have := hasB_iff.1 hh
      rw [modify_get h hl, if_neg (by omega)]
    unfold doB at hv
    split at hv
    · split at hv
      · rename_i hh; subst hv; exact hm _ hh hl
      · subst hv; rfl
    split at hv
    · split at hv
      · rename_i hh; subst hv; simp only [Bool.and_eq_true] at hh; exact hm _ hh.1 hl
      · subst hv; rfl
    split at hv
    · split at hv
      · rename_i hh; subst hv; exact hm _ hh hl
      · subst hv; rfl
    omega
  exact key _ rfl h'
theorem look_score (L : Nat) (p : Up) : (p.look L).score = p.score := by unfold Up.look; split <;> rfl
theorem do_up (L R : Nat) (us : List Up) (u n : Int) (i : Nat) (h : i < us.length) (h' : i < (doB L R us 0 u n).length) (hok : UpOk us[i]) : us[i].score ≤ (doB L R us 0 u n)[i].score := by
  have key : ∀ vs, (hv : vs = doB L R us 0 u n) → (hl : i < vs.length) → us[i].score ≤ vs[i].score := by
    intro vs hv hl
    rw [doB_0] at hv
    unfold agreeI at hv
    split at hv
    · subst hv
      unfold agreeB
      have e : ((us.modify u.toNat (Up.agreeS L))[i]'hl) = if u.toNat = i then us[i].agreeS L else us[i] := modify_get h hl
      have : us[i].score ≤ ((us.modify u.toNat (Up.agreeS L))[i]'hl).score := by
        rw [e]
        split
        · unfold Up.agreeS; rw [look_score]; have := hok.1; show us[i].score ≤ min _ _; omega
        · exact Nat.le_refl _
      exact this
    · subst hv; exact Nat.le_refl _
  exact key _ rfl h'
theorem do_down (L R : Nat) (us : List Up) (k : Nat) (u n : Int) (hk : k = 1 ∨ k = 2) (i : Nat) (h : i < us.length) (h' : i < (doB L R us k u n).length) : (doB L R us k u n)[i].score ≤ us[i].score := by
  have key : ∀ vs, (hv : vs = doB L R us k u n) → (hl : i < vs.length) → vs[i].score ≤ us[i].score := by
    intro vs hv hl
    have hm : ∀ (m : Nat) (f : Up → Up), (∀ p, (f p).score ≤ p.score) → (hl : i < (us.modify m f).length) → (us.modify m f)[i].score ≤ us[i].score := by
      intro m f hf hl
      rw [modify_get h hl]
      split
      · exact hf _
      · exact Nat.le_refl _
    rcases hk with rfl | rfl
    · rw [doB_1] at hv
      unfold disI at hv
      split at hv
      · subst hv
        exact hm _ _ (fun p => by split <;> (show p.score - 10 ≤ p.score; omega)) hl
      · subst hv; exact Nat.le_refl _
    · rw [doB_2] at hv
      unfold silentI at hv
      split at hv
      · subst hv
        exact hm _ _ (fun p => by show p.score - 2 ≤ p.score; omega) hl
      · subst hv; exact Nat.le_refl _
  exact key _ rfl h'

theorem tmod_u8 (k : Nat) : (k : Int).tmod 3 = ((k % 3 : Nat) : Int) := by rw [Int.tmod_eq_emod_of_nonneg (by omega)]; omega

def BoundsR (b r c rc L R n : Nat) (us vs : List Up) (t k3 : Nat) (u m : Int) (w : World) (i : Value) (wr : World) : Prop :=
  ∃ j : Nat, j ≤ n ∧ i = .int .i64 j ∧ Book wr b r L R us ∧ Book wr c rc L R vs ∧ wr.heap[t]? = some (.cells #[.int .u8 (k3 : Nat), .int .i64 u, .int .i64 m] 29 (0, 0)) ∧ Chg [] w wr

set_option maxRecDepth 100000 in
set_option maxHeartbeats 8000000 in
theorem reputeBounds_walk (x y z : Int) (a : Option Addr) (cap : Nat) (acts : List ActT) (A : ActT) (w : World) (_hx : (Lit.int .i64 x).wf = true) (_hy : (Lit.int .i64 y).wf = true) (_hz : (Lit.int .i64 z).wf = true) (h : IsActs w a acts) (hA : A.ok) :
    Calls Try.prog 4 #[.int .i64 x, .int .i64 y, .int .i64 z, .slice a acts.length cap, .agg #[.int .u8 (A.k : Nat), .int .i64 A.u, .int .i64 A.n]] w fun e w' => e = .returned (.bool true) ∧ Below w.heap.size w w' := by
  have hmax := h.1
  unfold maxLen at hmax
  have HA := Lib.hid h
  obtain ⟨k, u, m⟩ := A
  obtain ⟨hk, hu, hm⟩ := hA
  simp only [] at hk hu hm ⊢
  clear h
  by_cases hbig : 600 < acts.length
  · go_enter Try.func4, Try.ntmps4
    go_wp2_with fail
    refine (awake_any _).mono ?_
    rintro e w1 ⟨rfl, hc1⟩
    go_wp2
    go_ret
    exact ⟨rfl, (((Chg.refl [] _).alloc _).trans hc1).below (Nat.le_refl _) (by simp)⟩
  have hd : decide (600 < acts.length) = false := by simpa using hbig
  have hdI : decide ((600 : Int) < (acts.length : Int)) = false := by simp; omega
  have hleI : (acts.length : Int) ≤ 600 := by omega
  obtain ⟨n, L, R, hS⟩ := sizes_any x y z
  have HS := Lib.hid hS
  have hL2 := hS.L2
  have n9 : n ≤ 9 := by have := hS.n5; omega
  have n1 : 1 ≤ n := by have := hS.n5; omega
  have hR2 := hS.R2
  obtain ⟨us, hus⟩ : ∃ us, us = foldB L R (newB n) acts := ⟨_, rfl⟩
  obtain ⟨k3, hk3⟩ : ∃ k3, k3 = k % 3 := ⟨_, rfl⟩
  have hk3' : k3 < 3 := by omega
  obtain ⟨vs, hvs⟩ : ∃ vs, vs = doB L R us k3 u m := ⟨_, rfl⟩
  have hul : us.length = n := by rw [hus, foldB_len, newB_len]
  have hvl : vs.length = n := by rw [hvs, doB_len, hul]
  have HU := Lib.hid hus
  have HV := Lib.hid hvs
  have HUL := Lib.hid hul
  have HVL := Lib.hid hvl
  have hoku : AllOk us := by rw [hus]; exact allOk_fold hL2 hR2 _ (newB_ok n)
  have hokv : AllOk vs := by rw [hvs]; exact doB_ok hoku hL2 hR2 _ _ _
  have HOU := Lib.hid hoku
  have HOV := Lib.hid hokv
  have em : (k : Int) % 3 = (k3 : Int) := by omega
  have emt : (k : Int).tmod 3 = (k3 : Int) := by rw [tmod_u8, ← hk3]
  have hpos : 0 < us.length := by omega
  clear hS hbig hus hvs hul hvl hoku hokv hk3
  go_enter Try.func4, Try.ntmps4
  go_wp2_with fail
  refine (awake_any _).mono ?_
  rintro e w1 ⟨rfl, hc1⟩
  obtain ⟨t, ht⟩ : ∃ t, t = w.heap.size := ⟨_, rfl⟩
  have t1 : w1.heap[t]? = some (.cells #[.int .u8 (k : Nat), .int .i64 u, .int .i64 m] 29 (0, 0)) := hc1.keep (by rw [ht]; exact heap_new _ _) (by simp)
  have hC1 : Chg [] w w1 := ((Chg.refl _ _).alloc _).trans hc1
  have hwt : w.heap.size ≤ t := by omega
  rw [← ht]
  clear hc1 ht
  go_wp2_with fail
  refine (made_any x y z a cap acts n L R HS.out _ (HA.out.chg hC1)).mono ?_
  rintro e w2 ⟨b, r, rfl, hwb, hwr, h2, hc2⟩
  rw [← HU.out] at h2
  have t2 := hc2.keep t1 (by simp)
  have hC2 : Chg [] w w2 := hC1.trans hc2
  have hwr' : w.heap.size ≤ r := by have := hC1.size; omega
  have hbt : b ≠ t := by have := lt_of_block t1; omega
  have hrt : r ≠ t := by have := lt_of_block t1; omega
  clear hwb hwr hc2 hC1 t1
  have k0 : w2.cell? ⟨t, 0, none⟩ = some (.int .u8 (k : Nat)) := (cell_of t2).trans rfl
  have k1 : w2.cell? ⟨t, 1, none⟩ = some (.int .i64 u) := (cell_of t2).trans rfl
  have k2 : w2.cell? ⟨t, 2, none⟩ = some (.int .i64 m) := (cell_of t2).trans rfl
  have f0 : w2.frozen? ⟨t, 0, none⟩ = false := free_of t2
  go_wp2_with fail
  refine calls_abs ?_
  intro w3 hw3
  have t3 : w3.heap[t]? = some (.cells #[.int .u8 (k3 : Nat), .int .i64 u, .int .i64 m] 29 (0, 0)) := by rw [hw3]; exact heap_set t2 _
  have hc3 : Chg [t] w2 w3 := by rw [hw3]; exact Chg.set1 _ _ _ _
  have b3 : Book w3 b r L R us := h2.chg hc3 (by simpa using hbt) (by simpa using hrt)
  have hC3 : Chg [] w w3 := hC2.trans_new hc3 (by simpa using hwt)
  clear hw3 hc3 h2 hC2 t2 k0 k1 k2 f0
  refine (copy_any b r L R us _ b3 hpos).mono ?_
  rintro e w4 ⟨c, rc, rfl, hwc, hwrc, c4, hc4⟩
  have b4 := b3.chg hc4 (by simp) (by simp)
  have t4 := hc4.keep t3 (by simp)
  have hC4 := hC3.trans hc4
  have hbrc : b ≠ rc := by have := b3.lt; omega
  have hrrc : r ≠ rc := by have := b3.ltr; omega
  have htrc : t ≠ rc := by have := lt_of_block t3; omega
  have hwrc' : w.heap.size ≤ rc := by have := hC3.size; omega
  clear hc4 b3 t3 hC3 hwc hwrc
  have k0 : w4.cell? ⟨t, 0, none⟩ = some (.int .u8 (k3 : Nat)) := (cell_of t4).trans rfl
  have k1 : w4.cell? ⟨t, 1, none⟩ = some (.int .i64 u) := (cell_of t4).trans rfl
  have k2 : w4.cell? ⟨t, 2, none⟩ = some (.int .i64 m) := (cell_of t4).trans rfl
  go_wp2_with fail
  refine (does_any c rc L R us k3 u m _ c4).mono ?_
  rintro e w5 ⟨rfl, c5, hc5⟩
  rw [← HV.out] at c5
  have b5 := b4.chg hc5 (by simpa using hbrc) (by simpa using hrrc)
  have t5 := hc5.keep t4 (by simpa using htrc)
  have hC5 : Chg [] w w5 := hC4.trans_new hc5 (by simpa using hwrc')
  clear hc5 b4 c4 t4 hC4 k0 k1 k2 em emt
  go_wp2_with fail
  go_loopw [16] (BoundsR b r c rc L R n us vs t k3 u m w) (fun i _ => n - (intOf i).toNat)
  case atStart => exact ⟨0, Nat.zero_le _, rfl, b5, c5, t5, hC5⟩
  case round =>
    clear b5 c5 t5 hC5
    obtain ⟨i, hi, rfl, hb5, hc5, t5, hC5⟩ := hrel
    by_cases hlt2 : i < n
    · have hiu : i < us.length := by rw [HUL.out]; exact hlt2
      have hiv : i < vs.length := by rw [HVL.out]; exact hlt2
      obtain ⟨p, hp⟩ : ∃ p, p = tellB us i := ⟨_, rfl⟩
      obtain ⟨q, hq⟩ : ∃ q, q = tellB vs i := ⟨_, rfl⟩
      have HP := Lib.hid hp
      have HQ := Lib.hid hq
      rw [tell_in hiu] at hp
      rw [tell_in hiv] at hq
      have hoku := HOU.out _ (List.getElem_mem hiu)
      have hokv := HOV.out _ (List.getElem_mem hiv)
      have hve := HV.out
      have hiv' : i < (doB L R us k3 u m).length := by rw [← hve]; exact hiv
      have hgv : vs[i] = (doB L R us k3 u m)[i] := by simp only [hve]
      have htr : Tr L us[i] vs[i] := by rw [hgv]; exact doB_tr L R us k3 u m i hiu hiv'
      have g1 : q.score ≤ 100 := by rw [hq]; exact hokv.1
      have g2 : q.agree ≤ 65535 := by rw [hq]; exact hokv.2
      have g3 : q.dissent ≤ 65535 := by rw [hq]; exact hokv.3
      have g4 : q.silent ≤ 65535 := by rw [hq]; exact hokv.4
      have g5 : p.agree ≤ q.agree ∧ p.dissent ≤ q.dissent ∧ p.silent ≤ q.silent := by rw [hq, hp]; exact tr_counts (x := us[i]) (y := vs[i]) hoku htr
      obtain ⟨g5, g6, g7⟩ := g5
      have g8 : (i : Int) ≠ u → p = q := by intro hne; rw [hp, hq, hgv, do_other L R us k3 u m hk3' i hiu hiv' hne]
      have g9 : k3 = 0 → p.score ≤ q.score := by intro h0; subst h0; rw [hp, hq]; show us[i].score ≤ vs[i].score; rw [hgv]; exact do_up L R us u m i hiu hiv' hoku
      have g10 : k3 ≠ 0 → q.score ≤ p.score := by intro h0; rw [hp, hq]; show vs[i].score ≤ us[i].score; rw [hgv]; exact do_down L R us k3 u m (by omega) i hiu hiv'
      have d1 : decide ((q.score : Int) < 0) = false := by simp
      have d2 : decide (100 < (q.score : Int)) = false := by simp; omega
      have d3 : decide (65535 < (q.agree : Int)) = false := by simp; omega
      have d4 : decide (65535 < (q.dissent : Int)) = false := by simp; omega
      have d5 : decide (65535 < (q.silent : Int)) = false := by simp; omega
      have d6 : decide (q.agree < p.agree) = false := by simp; omega
      have d7 : decide (q.dissent < p.dissent) = false := by simp; omega
      have d8 : decide (q.silent < p.silent) = false := by simp; omega
      clear hp hq hoku hokv hve hiv' hgv htr g2 g3 g4 g5 g6 g7
      by_cases hne : (i : Int) = u
      · have e1 : ((i : Int) != u) = false := by simp [hne]
        have e2 : ((i : Int) == u) = true := by simp [hne]
        by_cases hk0 : k3 = 0
        · have hsc := g9 hk0
          have d9 : decide (q.score < p.score) = false := by simp; omega
          have e3 : ((k3 : Int) == 0) = true := by simp [hk0]
          have e4 : decide ((0 : Int) < (k3 : Int)) = false := by simp [hk0]
          have e5 : decide (0 < k3) = false := by simp [hk0]
          clear g8 g9 g10 hne hk0
          go_wp2_with fail
          refine (of_any b r L R us i p HP _ hb5).mono ?_
          rintro e w6 ⟨rfl, hc6⟩
          have hb6 := hb5.chg hc6 (by simp) (by simp)
          have hcc6 := hc5.chg hc6 (by simp) (by simp)
          have hC6 := hC5.trans hc6
          have t6 := hc6.keep t5 (by simp)
          clear hc6 t5
          go_wp2_with fail
          refine (of_any c rc L R vs i q HQ _ hcc6).mono ?_
          rintro e w7 ⟨rfl, hc7⟩
          have hb7 := hb6.chg hc7 (by simp) (by simp)
          have hcc7 := hcc6.chg hc7 (by simp) (by simp)
          have hC7 := hC6.trans hc7
          have t7 := hc7.keep t6 (by simp)
          have lt7 := lt_of_block t7
          have k0 : w7.cell? ⟨t, 0, none⟩ = some (.int .u8 (k3 : Nat)) := (cell_of t7).trans rfl
          have k1 : w7.cell? ⟨t, 1, none⟩ = some (.int .i64 u) := (cell_of t7).trans rfl
          clear hc7 hb6 hcc6 hC6 hb5 hc5 hC5 t6
          unfold upA
          go_wp2
          go_roundw
          case rel => exact ⟨i + 1, by omega, by go_num, (hb7.chg ((Chg.refl [] _).alloc _) (by simp) (by simp)).chg ((Chg.refl [] _).alloc _) (by simp) (by simp), (hcc7.chg ((Chg.refl [] _).alloc _) (by simp) (by simp)).chg ((Chg.refl [] _).alloc _) (by simp) (by simp), heap_old (heap_old t7), (hC7.alloc _).alloc _⟩
          case measure => simp [intOf] <;> omega
        · have hsc := g10 hk0
          have d9 : decide (p.score < q.score) = false := by simp; omega
          have e3 : ((k3 : Int) == 0) = false := by simp; omega
          have e4 : decide ((0 : Int) < (k3 : Int)) = true := by simp; omega
          have e5 : decide (0 < k3) = true := by simp; omega
          have e6 : 0 < k3 := by omega
          clear g8 g9 g10 hne hk0
          go_wp2_with fail
          refine (of_any b r L R us i p HP _ hb5).mono ?_
          rintro e w6 ⟨rfl, hc6⟩
          have hb6 := hb5.chg hc6 (by simp) (by simp)
          have hcc6 := hc5.chg hc6 (by simp) (by simp)
          have hC6 := hC5.trans hc6
          have t6 := hc6.keep t5 (by simp)
          clear hc6 t5
          go_wp2_with fail
          refine (of_any c rc L R vs i q HQ _ hcc6).mono ?_
          rintro e w7 ⟨rfl, hc7⟩
          have hb7 := hb6.chg hc7 (by simp) (by simp)
          have hcc7 := hcc6.chg hc7 (by simp) (by simp)
          have hC7 := hC6.trans hc7
          have t7 := hc7.keep t6 (by simp)
          have lt7 := lt_of_block t7
          have k0 : w7.cell? ⟨t, 0, none⟩ = some (.int .u8 (k3 : Nat)) := (cell_of t7).trans rfl
          have k1 : w7.cell? ⟨t, 1, none⟩ = some (.int .i64 u) := (cell_of t7).trans rfl
          clear hc7 hb6 hcc6 hC6 hb5 hc5 hC5 t6
          unfold upA
          go_wp2
          go_roundw
          case rel => exact ⟨i + 1, by omega, by go_num, (hb7.chg ((Chg.refl [] _).alloc _) (by simp) (by simp)).chg ((Chg.refl [] _).alloc _) (by simp) (by simp), (hcc7.chg ((Chg.refl [] _).alloc _) (by simp) (by simp)).chg ((Chg.refl [] _).alloc _) (by simp) (by simp), heap_old (heap_old t7), (hC7.alloc _).alloc _⟩
          case measure => simp [intOf] <;> omega
      · have hpq := g8 hne
        subst hpq
        have e1 : ((i : Int) != u) = true := by simp [hne]
        have e2 : ((i : Int) == u) = false := by simp [hne]
        have heq := fun W => eq_ups 9998 p p W
        unfold upA at heq
        simp only [decide_true] at heq
        clear g8 g9 g10 hne
        go_wp2_with fail
        refine (of_any b r L R us i p HP _ hb5).mono ?_
        rintro e w6 ⟨rfl, hc6⟩
        have hb6 := hb5.chg hc6 (by simp) (by simp)
        have hcc6 := hc5.chg hc6 (by simp) (by simp)
        have hC6 := hC5.trans hc6
        have t6 := hc6.keep t5 (by simp)
        clear hc6 t5
        go_wp2_with fail
        refine (of_any c rc L R vs i p HQ _ hcc6).mono ?_
        rintro e w7 ⟨rfl, hc7⟩
        have hb7 := hb6.chg hc7 (by simp) (by simp)
        have hcc7 := hcc6.chg hc7 (by simp) (by simp)
        have hC7 := hC6.trans hc7
        have t7 := hc7.keep t6 (by simp)
        have lt7 := lt_of_block t7
        have k0 : w7.cell? ⟨t, 0, none⟩ = some (.int .u8 (k3 : Nat)) := (cell_of t7).trans rfl
        have k1 : w7.cell? ⟨t, 1, none⟩ = some (.int .i64 u) := (cell_of t7).trans rfl
        clear hc7 hb6 hcc6 hC6 hb5 hc5 hC5 t6
        unfold upA
        go_wp2
        go_roundw
        case rel => exact ⟨i + 1, by omega, by go_num, (hb7.chg ((Chg.refl [] _).alloc _) (by simp) (by simp)).chg ((Chg.refl [] _).alloc _) (by simp) (by simp), (hcc7.chg ((Chg.refl [] _).alloc _) (by simp) (by simp)).chg ((Chg.refl [] _).alloc _) (by simp) (by simp), heap_old (heap_old t7), (hC7.alloc _).alloc _⟩
        case measure => simp [intOf] <;> omega
    · have dl2 : decide (i < n) = false := by simpa using hlt2
      go_wp2
      go_ret
      exact ⟨rfl, hC5.below (Nat.le_refl _) (by simp)⟩

end Go.Proofs.Ytjcciojbljlloaa
