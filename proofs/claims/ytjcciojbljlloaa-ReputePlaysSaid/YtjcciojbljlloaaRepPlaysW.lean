/- The walk of ReputePlays. -/
import Derived.Test.YtjcciojbljlloaaAlike19
import Derived.Test.YtjcciojbljlloaaRefC
namespace Go.Proofs.Ytjcciojbljlloaa
open Go.RowKit

section
variable (b r L R : Nat) (us : List Up) (u n : Int) (w : World)
theorem ragree_v (e0 : Nat) (vs : List Up) (h : RBook w b r L R us) (he : Hid (errB (hasB us u) = e0)) (hv : Hid (agreeI L us u = vs)) :
    Calls Try.prog 29 #[.pointer (some ⟨b, 0, none⟩), .int .i64 u] w fun e w' => e = .returned (.int .i64 e0) ∧ RBook w' b r L R vs ∧ Chg [r] w w' := by
  rw [← he.out, ← hv.out]; exact ragree_any b r L R us u w h
theorem rsilent_v (e0 : Nat) (vs : List Up) (h : RBook w b r L R us) (he : Hid (errB (hasB us u) = e0)) (hv : Hid (silentI us u = vs)) :
    Calls Try.prog 31 #[.pointer (some ⟨b, 0, none⟩), .int .i64 u] w fun e w' => e = .returned (.int .i64 e0) ∧ RBook w' b r L R vs ∧ Chg [r] w w' := by
  rw [← he.out, ← hv.out]; exact rsilent_any b r L R us u w h
theorem rdissent_v (e0 : Nat) (vs : List Up) (h : RBook w b r L R us) (hodd : us.length % 2 = 1) (he : Hid (errB (hasB us u && nowB n) = e0)) (hv : Hid (disI L R us u n = vs)) :
    Calls Try.prog 30 #[.pointer (some ⟨b, 0, none⟩), .int .i64 u, .int .i64 n] w fun e w' => e = .returned (.int .i64 e0) ∧ RBook w' b r L R vs ∧ Chg [r] w w' := by
  rw [← he.out, ← hv.out]; exact rdissent_any b r L R us u n w h hodd
theorem rback_v (l : List Nat) (vs : List Up) (h : RBook w b r L R us) (he : Hid (backI n us = l)) (hv : Hid (backB L n us = vs)) :
    Calls Try.prog 32 #[.pointer (some ⟨b, 0, none⟩), .int .i64 n] w (RBackPost b r L R l vs w) := by
  rw [← hv.out]; exact rback_any b r L R us n w h l he
end

/-- Where the two books lie. -/
structure Lie (w0 b r q s : Nat) : Prop where
  hr : w0 ≤ r
  hs : w0 ≤ s
  rq : r ≠ q
  rs : r ≠ s
  bs : b ≠ s
/-- How many there are. -/
structure Odd1 (us : List Up) : Prop where
  odd : us.length % 2 = 1
theorem Odd1.pos {us : List Up} (h : Odd1 us) : 0 < us.length := by have := h.odd; omega
theorem Odd1.le {us vs : List Up} (h : Odd1 us) (e : vs.length = us.length) : Odd1 vs := ⟨by rw [e]; exact h.odd⟩
theorem agreeI_len (L : Nat) (us : List Up) (u : Int) : (agreeI L us u).length = us.length := by rw [← doB_0 L 0 us u 0, doB_len]
theorem silentI_len (us : List Up) (u : Int) : (silentI us u).length = us.length := by rw [← doB_2 0 0 us u 0, doB_len]
theorem disI_len (L R : Nat) (us : List Up) (u n : Int) : (disI L R us u n).length = us.length := by rw [← doB_1 L R us u n, doB_len]

def RPlaysR (L R m : Nat) (w : World) (l x i : Value) (wr : World) : Prop :=
  ∃ (j b r q s : Nat) (us : List Up), j ≤ m ∧ i = .int .i64 j ∧ l = .pointer (some ⟨b, 0, none⟩) ∧ x = .pointer (some ⟨q, 0, none⟩) ∧ Both wr b r q s L R us ∧ Odd1 us ∧ Lie w.heap.size b r q s ∧ Chg [] w wr

theorem Both.step {w1 w2 : World} {b r q s L R : Nat} {vs : List Up} (hx : RBook w2 q s L R vs) (hl : Book w1 b r L R vs) (hc : Chg [s] w1 w2) {n : Nat} (hL : Lie n b r q s) : Both w2 b r q s L R vs :=
  ⟨hl.chg hc (by simpa using hL.bs) (by simpa using hL.rs), hx⟩
theorem Lie.book {w w1 : World} {n b r q s L R : Nat} {us : List Up} (hL : Lie n b r q s) (h : RBook w q s L R us) (hc : Chg [r] w w1) : RBook w1 q s L R us :=
  h.chg hc (by simpa using Ne.symm hL.rq) (by simpa using Ne.symm hL.rs)

def Act3 (w : World) (p : Nat) (u n : Int) : Prop := w.cell? ⟨p, 1, none⟩ = some (.int .i64 u) ∧ w.cell? ⟨p, 2, none⟩ = some (.int .i64 n)
theorem Act3.chg {w w' : World} {S : List Nat} {p : Nat} {u n : Int} (h : Act3 w p u n) (hc : Chg S w w') (hp : p ∉ S) : Act3 w' p u n := ⟨hc.cell h.1 hp, hc.cell h.2 hp⟩

set_option maxRecDepth 100000 in
set_option maxHeartbeats 8000000 in
theorem reputePlays_walk (x y z : Int) (a : Option Addr) (cap : Nat) (acts : List ActT) (w : World) (_hx : (Lit.int .i64 x).wf = true) (_hy : (Lit.int .i64 y).wf = true) (_hz : (Lit.int .i64 z).wf = true) (h : IsActs w a acts) :
    Calls Try.prog 9 #[.int .i64 x, .int .i64 y, .int .i64 z, .slice a acts.length cap] w fun e w' => e = .returned (.bool true) ∧ Below w.heap.size w w' := by
  have hmax := h.1
  unfold maxLen at hmax
  have HA := Lib.hid h.2
  clear h
  by_cases hbig : 600 < acts.length
  · have hbI : (600 : Int) < (acts.length : Int) := by omega
    go_enter Try.func9, Try.ntmps9
    go_wp2_with fail
    refine (awake_any _).mono ?_
    rintro e w1 ⟨rfl, hc1⟩
    go_wp2
    go_ret
    exact ⟨rfl, hc1.below (Nat.le_refl _) (by simp)⟩
  have hd : decide (600 < acts.length) = false := by simpa using hbig
  have hdI : decide ((600 : Int) < (acts.length : Int)) = false := by simp; omega
  have hleI : (acts.length : Int) ≤ 600 := by omega
  clear hbig
  by_cases hnr : x < 1 ∨ 9 < x ∨ x % 2 = 0 ∨ y < 1 ∨ 100 < y ∨ z < 1 ∨ 100000 < z
  · have HNR := Lib.hid hnr
    clear hnr
    go_enter Try.func9, Try.ntmps9
    go_wp2_with fail
    refine (newOut_any x y z _ HNR.out).mono ?_
    rintro e w1 ⟨rfl, rfl⟩
    go_wp2_with fail
    refine (rnewOut_any x y z _ HNR.out).mono ?_
    rintro e w1 ⟨rfl, rfl⟩
    go_wp2_with fail
    refine (awake_any _).mono ?_
    rintro e w1 ⟨rfl, hc1⟩
    go_wp2
    go_ret
    exact ⟨rfl, hc1.below (Nat.le_refl _) (by simp)⟩
  obtain ⟨n, L, R, rfl, rfl, rfl, hn5, hL1, hL2, hR1, hR2⟩ : ∃ n L R : Nat, x = n ∧ y = L ∧ z = R ∧ (n = 1 ∨ n = 3 ∨ n = 5 ∨ n = 7 ∨ n = 9) ∧ 1 ≤ L ∧ L ≤ 100 ∧ 1 ≤ R ∧ R ≤ 100000 :=
    ⟨x.toNat, y.toNat, z.toNat, by omega, by omega, by omega, by omega, by omega, by omega, by omega, by omega⟩
  have HN5 := Lib.hid hn5
  have HODD : Hid (Odd1 (newB n)) := Lib.hid ⟨by rw [newB_len]; omega⟩
  clear hnr hn5
  go_enter Try.func9, Try.ntmps9
  go_wp2_with fail
  refine (new_any n L R _ HN5.out hL1 hL2 hR1 hR2).mono ?_
  rintro e w1 ⟨b, r, rfl, hwb, hwr, h1, hC1⟩
  go_wp2_with fail
  refine (rnew_any n L R _ HN5.out hL1 hL2 hR1 hR2).mono ?_
  rintro e w2 ⟨q, s, rfl, hwq, hws, x2, hc2⟩
  have hLie : Lie w.heap.size b r q s := ⟨hwr, by have := hC1.size; omega, by have := h1.ltr; omega, by have := h1.ltr; omega, by have := h1.lt; omega⟩
  have h2 : Both w2 b r q s L R (newB n) := ⟨h1.chg hc2 (by simp) (by simp), x2⟩
  have hC2 := hC1.trans hc2
  clear hwb hwr h1 hC1 hwq hws x2 hc2 _hx _hy _hz
  go_wp2_with fail
  go_loopw [9, 11, 13] (RPlaysR L R acts.length w) (fun _ _ i _ => acts.length - (intOf i).toNat)
  case atStart => exact ⟨0, b, r, q, s, _, Nat.zero_le _, rfl, rfl, rfl, h2, HODD.out, hLie, hC2⟩
  case round =>
    clear h2 HODD hLie hC2 HN5
    obtain ⟨j, b, r, q, s, us, hj, rfl, rfl, rfl, hB, hO, hL, hC⟩ := hrel
    by_cases hlt : j < acts.length
    · obtain ⟨g, o, ha, hg, d0, d1, d2, hok⟩ := HA.out j hlt
      obtain ⟨A, hA⟩ : ∃ A, A = acts[j] := ⟨_, rfl⟩
      rw [← hA] at d0 d1 d2 hok
      obtain ⟨K, U, N⟩ := A
      subst ha
      have e0 : wr.cell? ⟨g, o + j * 3, none⟩ = some (.int .u8 K) := hC.cell d0 (by simp)
      have e1 : wr.cell? ⟨g, o + j * 3 + 1, none⟩ = some (.int .i64 U) := hC.cell d1 (by simp)
      have e2 : wr.cell? ⟨g, o + j * 3 + 2, none⟩ = some (.int .i64 N) := hC.cell d2 (by simp)
      clear hA d0 d1 d2 hok
      by_cases hK0 : K = 0
      · subst hK0
        go_wp2_with fail
        obtain ⟨p, hp⟩ : ∃ p, p = wr.heap.size := ⟨_, rfl⟩
        have hpr : r ≠ p := by have := hB.l.ltr; omega
        have hps : s ≠ p := by have := hB.x.ltr; omega
        rw [← hp]
        refine wp_abs ?_
        intro w0 hw0
        have z0 : Act3 w0 p U N := by rw [hw0, hp]; exact ⟨cell_of (heap_new _ _), cell_of (heap_new _ _)⟩
        have hC0' : Chg [] wr w0 := by rw [hw0]; exact (Chg.refl _ _).alloc _
        have hB0 := hB.chg hC0'
        have hC0 := hC.trans hC0'
        clear hw0 hp hB hC hC0' e0 e1 e2
        obtain ⟨ee, hee⟩ : ∃ ee : Nat, errB (hasB us U) = ee := ⟨_, rfl⟩
        obtain ⟨vs, hvs⟩ : ∃ vs, agreeI L us U = vs := ⟨_, rfl⟩
        have hO6 : Odd1 vs := hO.le (by rw [← hvs, agreeI_len])
        have HE := Lib.hid hee
        have HV := Lib.hid hvs
        have hodd := hO.odd
        have HODD := Lib.hid hodd
        clear hee hvs hodd
        have z1 : Hid (Act3 w0.drew p U N) := Lib.hid (z0.chg ((Chg.refl [] _).drew) (by simp))
        have hB1 := hB0.chg ((Chg.refl [] _).drew)
        clear z0
        unfold Act3 at z1
        go_region_held3 (fun W => W.cell? ⟨p, 1, none⟩ = some (.int .i64 U) ∧ W.cell? ⟨p, 2, none⟩ = some (.int .i64 N)) (first | (with_reducible exact z6.out) | (with_reducible exact z5.out) | (with_reducible exact z1.out)) (first | (go_at_call 25; go_must (refine (agree_v b r L R us U _ ee vs hB1.l HE HV).mono ?_; rintro e9 w5 ⟨rfl, l5, hc5⟩; have z5 := Lib.hid (Act3.chg z1.out hc5 (by simpa using Ne.symm hpr)); unfold Act3 at z5; have x5 := hL.book hB1.x hc5)) | (go_at_call 29; go_must (refine (ragree_v q s L R us U _ ee vs x5 HE HV).mono ?_; rintro e9 w6 ⟨rfl, x6, hc6⟩; have z6 := Lib.hid (Act3.chg z5.out hc6 (by simpa using Ne.symm hps)); unfold Act3 at z6)))
        have hB6 : Both w6 b r q s L R vs := Both.step x6 l5 hc6 hL
        have hC6 : Chg [] w w6 := (hC0.trans_new hc5.undrew (by simpa using hL.hr)).trans_new hc6 (by simpa using hL.hs)
        clear z1 z5 z6 hB0 hB1 hC0 hc5 hc6 x5 x6 l5 HE HV HODD
        go_wp2_with fail
        refine (alike_any b r q s L R vs _ hB6).mono ?_
        rintro e9 w9 ⟨rfl, hc9⟩
        have hB9 := hB6.chg hc9
        have hC9 := hC6.trans hc9
        clear hB6 hC6 hc9
        go_wp2
        go_roundw
        case rel => exact ⟨j + 1, b, r, q, s, vs, by omega, by go_num, rfl, rfl, hB9, hO6, hL, hC9⟩
        case measure => simp [intOf] <;> omega
      have u0 : ((K : Int) == 0) = false := by simp; omega
      by_cases hK1 : K = 1
      · subst hK1
        go_wp2_with fail
        obtain ⟨p, hp⟩ : ∃ p, p = wr.heap.size := ⟨_, rfl⟩
        have hpr : r ≠ p := by have := hB.l.ltr; omega
        have hps : s ≠ p := by have := hB.x.ltr; omega
        rw [← hp]
        refine wp_abs ?_
        intro w0 hw0
        have z0 : Act3 w0 p U N := by rw [hw0, hp]; exact ⟨cell_of (heap_new _ _), cell_of (heap_new _ _)⟩
        have hC0' : Chg [] wr w0 := by rw [hw0]; exact (Chg.refl _ _).alloc _
        have hB0 := hB.chg hC0'
        have hC0 := hC.trans hC0'
        clear hw0 hp hB hC hC0' e0 e1 e2
        obtain ⟨ee, hee⟩ : ∃ ee : Nat, errB (hasB us U && nowB N) = ee := ⟨_, rfl⟩
        obtain ⟨vs, hvs⟩ : ∃ vs, disI L R us U N = vs := ⟨_, rfl⟩
        have hO6 : Odd1 vs := hO.le (by rw [← hvs, disI_len])
        have HE := Lib.hid hee
        have HV := Lib.hid hvs
        have hodd := hO.odd
        have HODD := Lib.hid hodd
        clear hee hvs hodd
        have z1 : Hid (Act3 w0.drew p U N) := Lib.hid (z0.chg ((Chg.refl [] _).drew) (by simp))
        have hB1 := hB0.chg ((Chg.refl [] _).drew)
        clear z0
        unfold Act3 at z1
        go_region_held3 (fun W => W.cell? ⟨p, 1, none⟩ = some (.int .i64 U) ∧ W.cell? ⟨p, 2, none⟩ = some (.int .i64 N)) (first | (with_reducible exact z6.out) | (with_reducible exact z5.out) | (with_reducible exact z1.out)) (first | (go_at_call 19; go_must (refine (dissent_v b r L R us U N _ ee vs hB1.l HE HV).mono ?_; rintro e9 w5 ⟨rfl, l5, hc5⟩; have z5 := Lib.hid (Act3.chg z1.out hc5 (by simpa using Ne.symm hpr)); unfold Act3 at z5; have x5 := hL.book hB1.x hc5)) | (go_at_call 30; go_must (refine (rdissent_v q s L R us U N _ ee vs x5 HODD.out HE HV).mono ?_; rintro e9 w6 ⟨rfl, x6, hc6⟩; have z6 := Lib.hid (Act3.chg z5.out hc6 (by simpa using Ne.symm hps)); unfold Act3 at z6)))
        have hB6 : Both w6 b r q s L R vs := Both.step x6 l5 hc6 hL
        have hC6 : Chg [] w w6 := (hC0.trans_new hc5.undrew (by simpa using hL.hr)).trans_new hc6 (by simpa using hL.hs)
        clear z1 z5 z6 hB0 hB1 hC0 hc5 hc6 x5 x6 l5 HE HV HODD
        go_wp2_with fail
        refine (alike_any b r q s L R vs _ hB6).mono ?_
        rintro e9 w9 ⟨rfl, hc9⟩
        have hB9 := hB6.chg hc9
        have hC9 := hC6.trans hc9
        clear hB6 hC6 hc9
        go_wp2
        go_roundw
        case rel => exact ⟨j + 1, b, r, q, s, vs, by omega, by go_num, rfl, rfl, hB9, hO6, hL, hC9⟩
        case measure => simp [intOf] <;> omega
      have u1 : ((K : Int) == 1) = false := by simp; omega
      by_cases hK2 : K = 2
      · subst hK2
        go_wp2_with fail
        obtain ⟨p, hp⟩ : ∃ p, p = wr.heap.size := ⟨_, rfl⟩
        have hpr : r ≠ p := by have := hB.l.ltr; omega
        have hps : s ≠ p := by have := hB.x.ltr; omega
        rw [← hp]
        refine wp_abs ?_
        intro w0 hw0
        have z0 : Act3 w0 p U N := by rw [hw0, hp]; exact ⟨cell_of (heap_new _ _), cell_of (heap_new _ _)⟩
        have hC0' : Chg [] wr w0 := by rw [hw0]; exact (Chg.refl _ _).alloc _
        have hB0 := hB.chg hC0'
        have hC0 := hC.trans hC0'
        clear hw0 hp hB hC hC0' e0 e1 e2
        obtain ⟨ee, hee⟩ : ∃ ee : Nat, errB (hasB us U) = ee := ⟨_, rfl⟩
        obtain ⟨vs, hvs⟩ : ∃ vs, silentI us U = vs := ⟨_, rfl⟩
        have hO6 : Odd1 vs := hO.le (by rw [← hvs, silentI_len])
        have HE := Lib.hid hee
        have HV := Lib.hid hvs
        have hodd := hO.odd
        have HODD := Lib.hid hodd
        clear hee hvs hodd
        have z1 : Hid (Act3 w0.drew p U N) := Lib.hid (z0.chg ((Chg.refl [] _).drew) (by simp))
        have hB1 := hB0.chg ((Chg.refl [] _).drew)
        clear z0
        unfold Act3 at z1
        go_region_held3 (fun W => W.cell? ⟨p, 1, none⟩ = some (.int .i64 U) ∧ W.cell? ⟨p, 2, none⟩ = some (.int .i64 N)) (first | (with_reducible exact z6.out) | (with_reducible exact z5.out) | (with_reducible exact z1.out)) (first | (go_at_call 24; go_must (refine (silent_v b r L R us U _ ee vs hB1.l HE HV).mono ?_; rintro e9 w5 ⟨rfl, l5, hc5⟩; have z5 := Lib.hid (Act3.chg z1.out hc5 (by simpa using Ne.symm hpr)); unfold Act3 at z5; have x5 := hL.book hB1.x hc5)) | (go_at_call 31; go_must (refine (rsilent_v q s L R us U _ ee vs x5 HE HV).mono ?_; rintro e9 w6 ⟨rfl, x6, hc6⟩; have z6 := Lib.hid (Act3.chg z5.out hc6 (by simpa using Ne.symm hps)); unfold Act3 at z6)))
        have hB6 : Both w6 b r q s L R vs := Both.step x6 l5 hc6 hL
        have hC6 : Chg [] w w6 := (hC0.trans_new hc5.undrew (by simpa using hL.hr)).trans_new hc6 (by simpa using hL.hs)
        clear z1 z5 z6 hB0 hB1 hC0 hc5 hc6 x5 x6 l5 HE HV HODD
        go_wp2_with fail
        refine (alike_any b r q s L R vs _ hB6).mono ?_
        rintro e9 w9 ⟨rfl, hc9⟩
        have hB9 := hB6.chg hc9
        have hC9 := hC6.trans hc9
        clear hB6 hC6 hc9
        go_wp2
        go_roundw
        case rel => exact ⟨j + 1, b, r, q, s, vs, by omega, by go_num, rfl, rfl, hB9, hO6, hL, hC9⟩
        case measure => simp [intOf] <;> omega
      have u2 : ((K : Int) == 2) = false := by simp; omega
      by_cases hK3 : K = 3
      · subst hK3
        go_wp2_with fail
        obtain ⟨p, hp⟩ : ∃ p, p = wr.heap.size := ⟨_, rfl⟩
        have hpr : r ≠ p := by have := hB.l.ltr; omega
        have hps : s ≠ p := by have := hB.x.ltr; omega
        rw [← hp]
        refine wp_abs ?_
        intro w0 hw0
        have z0 : Act3 w0 p U N := by rw [hw0, hp]; exact ⟨cell_of (heap_new _ _), cell_of (heap_new _ _)⟩
        have hC0' : Chg [] wr w0 := by rw [hw0]; exact (Chg.refl _ _).alloc _
        have hB0 := hB.chg hC0'
        have hC0 := hC.trans hC0'
        clear hw0 hp hB hC hC0' e0 e1 e2
        obtain ⟨bl, hbl⟩ : ∃ bl, backI N us = bl := ⟨_, rfl⟩
        obtain ⟨vs, hvs⟩ : ∃ vs, backB L N us = vs := ⟨_, rfl⟩
        have hO6 : Odd1 vs := hO.le (by rw [← hvs, backB_len])
        have hbln : bl.length ≤ 9 := by rw [← hbl]; exact Nat.le_trans (idxN_len _ _ _) hB0.l.len
        have HE := Lib.hid hbl
        have HV := Lib.hid hvs
        clear hbl hvs
        have z1 : Hid (Act3 w0.drew p U N) := Lib.hid (z0.chg ((Chg.refl [] _).drew) (by simp))
        have hB1 := hB0.chg ((Chg.refl [] _).drew)
        clear z0
        unfold Act3 at z1
        have hsd : w0.drew.heap.size = w0.heap.size := rfl
        have hsl : s < w0.heap.size := hB0.x.ltr
        clear hsd
        go_region_held3 (fun W => W.cell? ⟨p, 1, none⟩ = some (.int .i64 U) ∧ W.cell? ⟨p, 2, none⟩ = some (.int .i64 N)) (first | (with_reducible exact z7.out) | (with_reducible exact z6.out) | (with_reducible exact z5.out) | (with_reducible exact z1.out)) (first | (go_at_call 17; go_must (refine (back_v b r L R us N _ bl vs hB1.l HE HV).mono ?_; rintro e9 w5 ⟨a5, k5, rfl, own5, l5, hc5⟩; have z5 := Lib.hid (Act3.chg z1.out hc5 (by simpa using Ne.symm hpr)); unfold Act3 at z5; have x5 := hL.book hB1.x hc5; have OWN5 := Lib.hid own5; clear own5)) | (go_at_call 32; go_must (refine (rback_v q s L R us N _ bl vs x5 HE HV).mono ?_; rintro e9 w6 ⟨a6, k6, rfl, own6, x6, hc6⟩; have z6 := Lib.hid (Act3.chg z5.out hc6 (by simpa using Ne.symm hps)); unfold Act3 at z6; have OWN5' := Lib.hid (owns_chg OWN5.out hc6 (by intro v hv; rw [List.mem_singleton.1 hv]; exact hsl)); have OWN6 := Lib.hid own6; clear own6)) | (go_at_call 22; go_must (refine (ints_c _ _ bl bl true (Lib.hid (by simp)) _ (row_of_own OWN5'.out) (row_of_own OWN6.out) (by omega) (by omega)).mono ?_; rintro e9 w7 ⟨rfl, hc7⟩; have z7 := Lib.hid (Act3.chg z6.out hc7 (by simp)); unfold Act3 at z7)))
        have hB6' : Both w6 b r q s L R vs := Both.step x6 l5 hc6 hL
        have hB6 := hB6'.chg hc7
        have hC6 : Chg [] w w7 := ((hC0.trans_new hc5.undrew (by simpa using hL.hr)).trans_new hc6 (by simpa using hL.hs)).trans hc7
        clear z1 z5 z6 z7 hB0 hB1 hC0 hc5 hc6 hc7 x5 x6 l5 HE HV OWN5 OWN5' OWN6 hB6'
        go_wp2_with fail
        refine (alike_any b r q s L R vs _ hB6).mono ?_
        rintro e9 w9 ⟨rfl, hc9⟩
        have hB9 := hB6.chg hc9
        have hC9 := hC6.trans hc9
        clear hB6 hC6 hc9
        go_wp2
        go_roundw
        case rel => exact ⟨j + 1, b, r, q, s, vs, by omega, by go_num, rfl, rfl, hB9, hO6, hL, hC9⟩
        case measure => simp [intOf] <;> omega
      have u3 : ((K : Int) == 3) = false := by simp; omega
      go_wp2_with fail
      obtain ⟨p, hp⟩ : ∃ p, p = wr.heap.size := ⟨_, rfl⟩
      have hpr : r ≠ p := by have := hB.l.ltr; omega
      have hps : s ≠ p := by have := hB.x.ltr; omega
      rw [← hp]
      refine calls_abs ?_
      intro w0 hw0
      have z0 : Act3 w0 p U N := by rw [hw0, hp]; exact ⟨cell_of (heap_new _ _), cell_of (heap_new _ _)⟩
      have hC0' : Chg [] wr w0 := by rw [hw0]; exact (Chg.refl _ _).alloc _
      have hB0 := hB.chg hC0'
      have hC0 := hC.trans hC0'
      clear hw0 hp hB hC hC0' e0 e1 e2
      have hpos := hO.pos
      have HPOS := Lib.hid hpos
      clear hpos
      have hbl0 := hB0.l.lt
      have hrl0 := hB0.l.ltr
      have hql0 := hB0.x.lt
      have hsl0 := hB0.x.ltr
      have hw0s : w.heap.size ≤ w0.heap.size := hC0.size
      refine (copy_any b r L R us _ hB0.l HPOS.out).mono ?_
      rintro e9 w3 ⟨c, rc, rfl, hwc, hwrc, c3, hc3⟩
      have hB3 := hB0.chg hc3
      have z3 := z0.chg hc3 (by simp)
      have hC3 := hC0.trans hc3
      have hcr : c ≠ r := by omega
      have hrcr : rc ≠ r := by omega
      have hwrc' : w.heap.size ≤ rc := by omega
      clear hc3 hB0 z0 hC0 hwc hwrc hbl0 hrl0 hw0s
      go_wp2_with fail
      refine (dissent_v b r L R us 0 1 _ _ _ hB3.l (Lib.hid rfl) (Lib.hid rfl)).mono ?_
      rintro e9 w4 ⟨rfl, l4, hc4⟩
      have x4 := hL.book hB3.x hc4
      have c4 := c3.chg hc4 (by simpa using hcr) (by simpa using hrcr)
      have z4 := z3.chg hc4 (by simpa using Ne.symm hpr)
      have hC4 : Chg [] w w4 := hC3.trans_new hc4 (by simpa using hL.hr)
      clear hc4 hB3 c3 z3 hC3
      obtain ⟨v4, hv4⟩ : ∃ v4, disI L R us 0 1 = v4 := ⟨_, rfl⟩
      rw [hv4] at l4
      clear hv4
      have k1 : w4.cell? ⟨p, 1, none⟩ = some (.int .i64 U) := z4.1
      go_wp2_with fail
      refine (agree_v b r L R v4 U _ _ _ l4 (Lib.hid rfl) (Lib.hid rfl)).mono ?_
      rintro e9 w5 ⟨rfl, l5, hc5⟩
      have x5 := hL.book x4 hc5
      have c5 := c4.chg hc5 (by simpa using hcr) (by simpa using hrcr)
      have hC5 : Chg [] w w5 := hC4.trans_new hc5 (by simpa using hL.hr)
      clear hc5 l4 x4 c4 z4 hC4 k1
      obtain ⟨v5, hv5⟩ : ∃ v5, agreeI L v4 U = v5 := ⟨_, rfl⟩
      rw [hv5] at l5
      clear hv5
      go_wp2_with fail
      refine (back_v b r L R v5 1099511627776 _ _ _ l5 (Lib.hid rfl) (Lib.hid rfl)).mono ?_
      rintro e9 w6 ⟨a6, k6, rfl, own6, l6, hc6⟩
      have x6 := hL.book x5 hc6
      have c6 := c5.chg hc6 (by simpa using hcr) (by simpa using hrcr)
      have hC6 : Chg [] w w6 := hC5.trans_new hc6 (by simpa using hL.hr)
      clear hc6 l5 l6 x5 c5 hC5 own6
      have hcl := c6.lt
      have hrcl := c6.ltr
      go_wp2_with fail
      refine (rcopy_any q s L R us _ x6 HPOS.out).mono ?_
      rintro e9 w7 ⟨q7, s7, rfl, hwq7, hws7, x7, hc7⟩
      have hB7 : Both w7 c rc q7 s7 L R us := ⟨c6.chg hc7 (by simp) (by simp), x7⟩
      have hL7 : Lie w.heap.size c rc q7 s7 := ⟨hwrc', by have := hC6.size; omega, by omega, by omega, by omega⟩
      have hC7 := hC6.trans hc7
      clear hc7 x6 x7 c6 hC6 hwq7 hws7 hcl hrcl HPOS
      go_wp2_with fail
      refine (alike_any c rc q7 s7 L R us _ hB7).mono ?_
      rintro e9 w9 ⟨rfl, hc9⟩
      have hB9 := hB7.chg hc9
      have hC9 := hC7.trans hc9
      clear hB7 hC7 hc9
      go_wp2
      go_roundw
      case rel => exact ⟨j + 1, c, rc, q7, s7, us, by omega, by go_num, rfl, rfl, hB9, hO, hL7, hC9⟩
      case measure => simp [intOf] <;> omega
    · have dj : decide (j < acts.length) = false := by simpa using hlt
      clear hlt
      go_wp2_with fail
      refine (awake_any _).mono ?_
      rintro e w3 ⟨rfl, hc3⟩
      go_wp2
      go_ret
      exact ⟨rfl, (hC.trans hc3).below (Nat.le_refl _) (by simp)⟩

end Go.Proofs.Ytjcciojbljlloaa
