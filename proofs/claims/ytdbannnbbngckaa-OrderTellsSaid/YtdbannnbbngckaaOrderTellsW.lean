/- The walk of OrderTells. -/
import Derived.Test.YtdbannnbbngckaaOrdI
import Derived.Test.YtdbannnbbngckaaOrdG
namespace Go.Proofs.Ytdbannnbbngckaa
open Go.RowKit

theorem rorder_any (q s L R t seed used : Nat) (l : List Nat) (us : List Up) (ord : List Nat) (w : World) (h : RBook w q s L R us) (ht : D.RTape w t seed l used) (hu : used < 4000000000000000000) (hO : Hid (ordN us (D.drawN seed l) used = ord)) :
    Calls Try.prog 25 #[.pointer (some ⟨q, 0, none⟩), .pointer (some ⟨t, 0, none⟩)] w (ROrderPost t seed used l us ord w) := by
  rw [← hO.out]
  by_cases hml : mayN us = []
  · exact rorder_none q s L R t seed used l us w h ht hml
  · exact rorder_some q s L R t seed used l us w h ht hu (List.length_pos_iff.2 hml)
theorem tape_rbook {w : World} {t seed : Nat} {l : List Nat} {n q s L R : Nat} {us : List Up} (ht : D.TapeAt w t seed l n) (h : RBook w q s L R us) : q ≠ t ∧ s ≠ t := by
  obtain ⟨nb, sb, v, h1, _⟩ := ht
  obtain ⟨cap, _, h2⟩ := h.head
  obtain ⟨rest, h3⟩ := h.row
  constructor
  · intro e; subst e; rw [h1] at h2; injection h2 with h2; injection h2 with _ h2; exact absurd h2 (by decide)
  · intro e; subst e; rw [h1] at h3; injection h3 with h3; injection h3 with _ h3; exact absurd h3 (by decide)
theorem rtape_pbook {w : World} {t seed : Nat} {l : List Nat} {n b r L R : Nat} {us : List Up} (ht : D.RTape w t seed l n) (h : Book w b r L R us) : b ≠ t ∧ r ≠ t := by
  obtain ⟨v, h1, _⟩ := ht
  obtain ⟨cap, _, h2⟩ := h.head
  obtain ⟨rest, h3⟩ := h.row
  constructor
  · intro e; subst e; rw [h1] at h2; injection h2 with h2; injection h2 with _ h2; exact absurd h2 (by decide)
  · intro e; subst e; rw [h1] at h3; injection h3 with h3; injection h3 with _ h3; exact absurd h3 (by decide)
theorem tape_rtape {w : World} {t u seed sd : Nat} {l m : List Nat} {n k : Nat} (ht : D.TapeAt w t seed l n) (h : D.RTape w u sd m k) : t ≠ u := by
  obtain ⟨nb, sb, v, h1, _⟩ := ht
  obtain ⟨v2, h2, _⟩ := h
  intro e; subst e; rw [h1] at h2; injection h2 with h2; injection h2 with _ h2; exact absurd h2 (by decide)
theorem RTape.c2 {w : World} {t seed : Nat} {l : List Nat} {n : Nat} (h : D.RTape w t seed l n) : w.cell? ⟨t, 2, none⟩ = some (.int .i64 n) := by
  obtain ⟨v, h1, _⟩ := h
  exact (cell_of h1).trans rfl

/-- The two books and the two tapes. -/
structure Four (w : World) (b r q s t u L R seed k : Nat) (us : List Up) (fl : List Nat) : Prop where
  bk : Book w b r L R us
  rb : RBook w q s L R us
  tp : D.TapeAt w t seed fl k
  rt : D.RTape w u seed fl k
theorem Four.chg {w w' : World} {b r q s t u L R seed k : Nat} {us : List Up} {fl : List Nat} (h : Four w b r q s t u L R seed k us fl) (hc : Chg [] w w') : Four w' b r q s t u L R seed k us fl :=
  ⟨h.bk.chg hc (by simp) (by simp), h.rb.chg hc (by simp) (by simp), h.tp.chg hc (by simp) (by simp), h.rt.chg hc (by simp) (by simp)⟩
/-- A row of numbers is written over. -/
theorem Four.over {w w' : World} {b r q s t u L R seed k g : Nat} {us : List Up} {fl : List Nat} {cur : Array Value} (h : Four w b r q s t u L R seed k us fl) (hg : w.heap[g]? = some (.cells cur 3 (0, 0))) (hc : Chg [g] w w') : Four w' b r q s t u L R seed k us fl := by
  have key : ∀ x c T f, w.heap[x]? = some (.cells c T f) → T ≠ 3 → x ≠ g := by
    intro x c T f hx hT e
    subst e
    rw [hg] at hx
    injection hx with hx
    injection hx with _ hx
    exact hT hx.symm
  obtain ⟨cap1, _, b1⟩ := h.bk.head
  obtain ⟨rs1, b2⟩ := h.bk.row
  obtain ⟨cap2, _, x1⟩ := h.rb.head
  obtain ⟨rs2, x2⟩ := h.rb.row
  obtain ⟨nb, sb, v, t1, _⟩ := h.tp
  obtain ⟨v2, u1, _⟩ := h.rt
  refine ⟨h.bk.chg hc (by simpa using key _ _ _ _ b1 (by decide)) (by simpa using key _ _ _ _ b2 (by decide)), h.rb.chg hc (by simpa using key _ _ _ _ x1 (by decide)) (by simpa using key _ _ _ _ x2 (by decide)), h.tp.chg hc (by simpa using key _ _ _ _ t1 (by decide)) ?_, h.rt.chg hc (by simpa using key _ _ _ _ u1 (by decide)) ?_⟩
  · intro x hx; simp at hx; subst hx; exact ⟨_, _, _, hg, by decide, by decide⟩
  · intro x hx; simp at hx; subst hx; exact ⟨_, _, _, hg, by decide⟩
theorem RowAny.at' {base : Nat} {w : World} {a : Option Addr} {n c : Nat} (h : RowAny base w (.slice a n c) n) {j : Nat} (hj : j < n) :
    ∃ g y cur, a = some ⟨g, 0, none⟩ ∧ base ≤ g ∧ w.heap[g]? = some (.cells cur 3 (0, 0)) ∧ w.cell? ⟨g, j, none⟩ = some y ∧ w.frozen? ⟨g, j, none⟩ = false ∧ ∀ v, RowAny base (w.setCell ⟨g, j, none⟩ v) (.slice a n c) n := by
  rcases h with ⟨_, hn⟩ | ⟨g, cap, cur, hv, hg, hb, h1⟩
  · omega
  · injection hv with hv1 hv2 hv3
    subst hv1
    refine ⟨g, cur[j]'(by omega), cur, rfl, hg, hb, (cell_of hb).trans (by simp), free_of hb, fun v => .inr ⟨g, c, cur.setIfInBounds j v, rfl, hg, heap_set hb v, by simpa using h1⟩⟩

def TellR (w : World) (b r q s t u L R seed m : Nat) (us : List Up) (fl : List Nat) (i : Value) (wr : World) : Prop :=
  ∃ j : Nat, j ≤ 3 ∧ i = .int .i64 j ∧ Four wr b r q s t u L R seed (j * m) us fl ∧ Chg [] w wr
def TellO (w : World) (b r q s t u L R seed k : Nat) (us : List Up) (fl : List Nat) (base : Nat) (a : Option Addr) (n c : Nat) (i : Value) (wr : World) : Prop :=
  ∃ j : Nat, j ≤ n ∧ i = .int .i64 j ∧ RowAny base wr (.slice a n c) n ∧ Four wr b r q s t u L R seed k us fl ∧ Chg [] w wr

set_option maxRecDepth 100000 in
set_option maxHeartbeats 8000000 in
theorem orderTells_walk (C : CaseT) (w : World) (h : IsCase w C) :
    Calls Try.prog 5 #[.agg (caseA C)] w fun e w' => e = .returned (.bool true) ∧ Below w.heap.size w w' := by
  obtain ⟨wx, wy, wz, hacts, hseed, hfirst⟩ := h
  obtain ⟨fl, hfl, hfb, hreads, _, _⟩ := D.arg_u64 hfirst
  have HA := Lib.hid hacts
  have HR := Lib.hid hreads
  have HFB := Lib.hid hfb
  have HFL := Lib.hid hfl
  clear hacts hfirst hreads hfb hfl wx wy wz
  obtain ⟨B, hB⟩ : ∃ B, B = (decide (500 < C.acts.length) || decide (500 < C.fl)) := ⟨_, rfl⟩
  have HB := Lib.hid hB
  clear hB
  have hcA : caseA C = #[.int .i64 C.x, .int .i64 C.y, .int .i64 C.z, .slice C.a C.acts.length C.ac, .int .u64 C.seed, .slice C.f C.fl C.fc] := rfl
  rw [hcA]
  have HCA := Lib.hid hcA
  clear hcA
  cases B with
  | true =>
    go_enter Try.func5, Try.ntmps5
    go_wp2_with fail
    rw [← HCA.out]
    refine (long_any C true HB _).mono ?_
    rintro e w1 ⟨rfl, hc1⟩
    have hC1 : Chg [] w w1 := ((Chg.refl _ _).alloc _).trans hc1
    try rw [HCA.out]
    go_wp2_with fail
    refine (awake_any _).mono ?_
    rintro e w2 ⟨rfl, hc2⟩
    go_wp2
    go_ret
    exact ⟨rfl, (hC1.trans hc2).below (Nat.le_refl _) (by simp)⟩
  | false =>
    have h500 : C.acts.length ≤ 500 ∧ C.fl ≤ 500 := by have := HB.out; simp at this; omega
    by_cases hnr : C.x < 1 ∨ 9 < C.x ∨ C.x % 2 = 0 ∨ C.y < 1 ∨ 100 < C.y ∨ C.z < 1 ∨ 100000 < C.z
    · have HNR := Lib.hid hnr
      clear hnr
      go_enter Try.func5, Try.ntmps5
      go_wp2_with fail
      obtain ⟨p, hp⟩ : ∃ p, p = w.heap.size := ⟨_, rfl⟩
      rw [← hp]
      refine calls_abs ?_
      intro w0 hw0
      have p0 : CaseAt w0 p C := by rw [hw0, hp]; exact heap_new _ _
      have hC0 : Chg [] w w0 := by rw [hw0]; exact (Chg.refl _ _).alloc _
      clear hw0 hp
      rw [← HCA.out]
      refine (long_any C false HB _).mono ?_
      rintro e w1 ⟨rfl, hc1⟩
      have p1 := p0.chg hc1 (by simp)
      have hC1 := hC0.trans hc1
      clear p0 hC0 hc1
      have p2 := p1
      have hC2 := hC1
      clear p1 hC1
      obtain ⟨k0, k1, k2, k3, k4, k5⟩ := p2.cells
      go_wp2_with fail
      rw [← HCA.out]
      refine (book_out C _ HNR.out).mono ?_
      rintro e w3 ⟨rfl, hc3⟩
      have hC3 := hC2.trans hc3
      go_wp2_with fail
      refine (awake_any _).mono ?_
      rintro e w4 ⟨rfl, hc4⟩
      go_wp2
      go_ret
      exact ⟨rfl, (hC3.trans hc4).below (Nat.le_refl _) (by simp)⟩
    obtain ⟨n, L, R, hin⟩ : ∃ n L R, CaseIn C n L R :=
      ⟨C.x.toNat, C.y.toNat, C.z.toNat, by omega, by omega, by omega, by omega, by omega, by omega, by omega, by omega⟩
    have HIN := Lib.hid hin
    obtain ⟨us, hus⟩ : ∃ us, foldB L R (newB n) C.acts = us := ⟨_, rfl⟩
    have hul : us.length = n := by rw [← hus, foldB_len, newB_len]
    have hpos : 0 < us.length := by have := hin.n5; omega
    have hul9 : us.length ≤ 9 := by have := hin.n5; omega
    have HU := Lib.hid hus
    clear hnr hin hus hul
    go_enter Try.func5, Try.ntmps5
    go_wp2_with fail
    obtain ⟨p, hp⟩ : ∃ p, p = w.heap.size := ⟨_, rfl⟩
    rw [← hp]
    refine calls_abs ?_
    intro w0 hw0
    have p0 : CaseAt w0 p C := by rw [hw0, hp]; exact heap_new _ _
    have hC0 : Chg [] w w0 := by rw [hw0]; exact (Chg.refl _ _).alloc _
    have hpw : w.heap.size ≤ p := by omega
    clear hw0 hp
    rw [← HCA.out]
    refine (long_any C false HB _).mono ?_
    rintro e w1 ⟨rfl, hc1⟩
    have p1 := p0.chg hc1 (by simp)
    have hC1 := hC0.trans hc1
    clear p0 hC0 hc1
    obtain ⟨w2, rfl⟩ : ∃ w2 : World, w2 = w1 := ⟨_, rfl⟩
    have p2 := p1
    have hC2 := hC1
    clear p1 hC1
    obtain ⟨k0, k1, k2, k3, k4, k5⟩ := p2.cells
    go_wp2_with fail
    rw [← HCA.out]
    refine (book_in C n L R us HU HIN.out h500.1 _ (HA.out.chg hC2)).mono ?_
    rintro e w3 ⟨b, r, q, s, rfl, hB3, hLie, hwb, hc3⟩
    have p3 := p2.chg hc3 (by simp)
    have hC3 := hC2.trans hc3
    have hwr : w.heap.size ≤ r := by have := hLie.hr; have := hC2.size; omega
    have hws : w.heap.size ≤ s := by have := hLie.hs; have := hC2.size; omega
    have hwb' : w.heap.size ≤ b := by have := hC2.size; omega
    have hpb : p < w2.heap.size := lt_of_block p2
    have hpr : p ≠ r := by have := hLie.hr; omega
    have hps : p ≠ s := by have := hLie.hs; omega
    clear p2 hC2 hc3 hwb k0 k1 k2 k3 k4 k5 hpb
    obtain ⟨k0, k1, k2, k3, k4, k5⟩ := p3.cells
    have hrd3 : D.Reads .u64 w3 (.slice C.f C.fl C.fc) fl := HR.out.chg hC3 (by simp)
    have RD3 := Lib.hid hrd3
    have hfl6 : fl.length ≤ 1000000 := by rw [HFL.out]; omega
    clear hrd3
    have hb3 := hB3.l
    have hx3 := hB3.x
    obtain ⟨m1, hm1⟩ : ∃ m1, m1 = (mayN us).length - 1 := ⟨_, rfl⟩
    have hm9 : m1 ≤ 9 := by have : (mayN us).length ≤ 9 := Nat.le_trans (idxN_len _ _ _) hul9; omega
    have HM := Lib.hid hm1
    have S3 : Hid (w3.drew.cell? ⟨p, 4, none⟩ = some (.int .u64 C.seed) ∧ w3.drew.cell? ⟨p, 5, none⟩ = some (.slice C.f C.fl C.fc)) := Lib.hid ⟨k4, k5⟩
    have hs3 : w.heap.size ≤ w3.heap.size := hC3.size
    clear hB3 k0 k1 k2 k3 k4 k5 hm1
    go_wp2_with fail
    go_region_held3 (fun W => W.cell? ⟨p, 4, none⟩ = some (.int .u64 C.seed) ∧ W.cell? ⟨p, 5, none⟩ = some (.slice C.f C.fl C.fc)) (first | (with_reducible exact S5.out) | (with_reducible exact S4.out) | (with_reducible exact S3.out)) (first | (go_at_call 10; go_must (refine (D.new_any C.seed _ fl _ hfl6 HFB.out ?_).mono ?_; exact RD3.out; rintro e9 w4 ⟨t, rfl, hwt, t4, hc4⟩; have S4 := Lib.hid (And.intro (hc4.cell S3.out.1 (by simp)) (hc4.cell S3.out.2 (by simp))))) | (go_at_call 24; go_must (refine (D.rnew_any C.seed _ fl _ hseed hfl6 HFB.out ?_).mono ?_; exact RD3.out.chg hc4.undrew (by simp); rintro e9 w5 ⟨u, rfl, hwu, u5, hc5, _⟩; have S5 := Lib.hid (And.intro (hc5.cell S4.out.1 (by simp)) (hc5.cell S4.out.2 (by simp))))))
    have hwt2 : w.heap.size ≤ t := Nat.le_trans hs3 hwt
    have hwu2 : w.heap.size ≤ u := Nat.le_trans (Nat.le_trans hs3 hc4.undrew.size) hwu
    have hc45 : Chg [] w3 w5 := hc4.undrew.trans hc5
    have F5 : Hid (Four w5 b r q s t u L R C.seed (0 * m1) us fl) := Lib.hid ⟨hb3.chg hc45 (by simp) (by simp), hx3.chg hc45 (by simp) (by simp), by rw [Nat.zero_mul]; exact t4.chg hc5 (by simp) (by simp), by rw [Nat.zero_mul]; exact u5⟩
    have hC5 := hC3.trans hc45
    clear S3 S4 S5 t4 u5 hc4 hc5 hc45 hb3 hx3 hC3 hwt hwu p3 RD3
    go_wp2_with fail
    go_loopw [7] (TellR w b r q s t u L R C.seed m1 us fl) (fun i _ => 3 - (intOf i).toNat)
    case atStart => exact ⟨0, by omega, rfl, F5.out, hC5⟩
    case round =>
      clear F5 hC5
      obtain ⟨j, hj, rfl, hF, hC⟩ := hrel
      by_cases hj3 : j < 3
      · obtain ⟨kk, hkk⟩ : ∃ kk, kk = j * m1 := ⟨_, rfl⟩
        have hkb : kk ≤ 1000 := by rw [hkk]; have := Nat.mul_le_mul (show j ≤ 3 by omega) hm9; omega
        have hk2 : kk + m1 = (j + 1) * m1 := by rw [hkk, Nat.add_mul, Nat.one_mul]
        rw [← hkk] at hF
        have HK2 := Lib.hid hk2
        obtain ⟨ord, hord⟩ : ∃ ord, ordN us (D.drawN C.seed fl) kk = ord := ⟨_, rfl⟩
        have hol : ord.length ≤ 9 := by rw [← hord, ordN_len]; exact Nat.le_trans (idxN_len _ _ _) hul9
        have HO := Lib.hid hord
        have hqt := (tape_rbook hF.tp hF.rb).1
        have hst := (tape_rbook hF.tp hF.rb).2
        have hbu := (rtape_pbook hF.rt hF.bk).1
        have hru := (rtape_pbook hF.rt hF.bk).2
        have htu := tape_rtape hF.tp hF.rt
        have hulr : u < wr.heap.size := hF.rt.lt
        clear hkk hk2 hord
        go_wp2_with fail
        refine (order_any b r L R t C.seed kk fl us ord _ hF.bk hF.tp (by omega) HO).mono ?_
        rintro e w6 ⟨a6, c6, rfl, own6, b6, t6, hc6⟩
        rw [← HM.out] at t6
        have x6 := hF.rb.chg hc6 (by simpa using hqt) (by simpa using hst)
        have u6 := hF.rt.chg hc6 (by simpa using Ne.symm htu) (by intro z hz; simp at hz; subst hz; obtain ⟨c, f, T, h1, h2, _⟩ := hF.tp.own; exact ⟨c, f, T, h1, h2⟩)
        have hC6 : Chg [] w w6 := hC.trans_new hc6 (by simpa using hwt2)
        have OWN6 := Lib.hid own6
        have hs6 : w.heap.size ≤ wr.heap.size := hC.size
        clear hF hC hc6 own6
        have S6 : Hid (w6.drew.cell? ⟨u, 2, none⟩ = some (.int .i64 kk)) := Lib.hid (RTape.c2 u6)
        have x6d : RBook w6.drew q s L R us := x6.chg ((Chg.refl [] _).drew) (by simp) (by simp)
        go_wp2_with fail
        go_region_with (first | (go_at_call 25; go_must (refine (rorder_any q s L R u C.seed kk fl us ord _ x6d ?_ (by omega) HO).mono ?_; exact u6; rintro e9 w7 ⟨a7, c7, rfl, own7, u7, hc7⟩; rw [← HM.out] at u7; have hc7' := hc7.undrew; have own67 := owns_chg OWN6.out hc7' (by simpa using hulr); have OWN67 := Lib.hid own67; have OWN7 := Lib.hid own7; clear own7 own67)) | (go_at_call 11; go_must (refine (ints_c _ _ ord ord true (Lib.hid (by simp)) _ (row_of_own OWN67.out) (row_of_own OWN7.out) (by omega) (by omega)).mono ?_; rintro e9 w8 ⟨rfl, hc8⟩; have u8 := u7.chg hc8 (by simp) (by simp); have k8 : w8.cell? ⟨u, 2, none⟩ = some (.int .i64 ((kk + m1 : Nat) : Int)) := RTape.c2 u8; have t8 := (t6.chg hc7' (by simpa using htu) (by intro z hz; simp at hz; subst hz; exact u6.own)).chg hc8 (by simp) (by simp))) | (go_at_call 13; go_must (refine (D.used_any t C.seed fl (kk + m1) _ t8).mono ?_; rintro e9 w9 ⟨rfl, rfl⟩)))
        all_goals
          have b8 := (b6.chg hc7' (by simpa using hbu) (by simpa using hru)).chg hc8 (by simp) (by simp)
          have x8 := (x6.chg hc7' (by have := (rtape_book u6 x6).1; simpa using this) (by have := (rtape_book u6 x6).2; simpa using this)).chg hc8 (by simp) (by simp)
          have F8 : Four w8 b r q s t u L R C.seed (kk + m1) us fl := ⟨b8, x8, t8, u8⟩
          have hC8 : Chg [] w w8 := (hC6.trans_new hc7' (by simpa using hwu2)).trans hc8
          have RA8 := Lib.hid (rowAny_of (owns_chg OWN67.out hc8 (by simp)))
          clear S6 x6d b6 t6 x6 u6 hC6 hc7 hc7' hc8 OWN6 OWN67 OWN7 u7 u8 k8 t8 b8 x8
          go_wp2_with fail
          go_loopw [9] (TellO w b r q s t u L R C.seed (kk + m1) us fl wr.heap.size a6 ord.length c6) (fun i _ => ord.length - (intOf i).toNat)
          case atStart => exact ⟨0, Nat.zero_le _, rfl, RA8.out, F8, hC8⟩
          case round =>
            clear RA8 F8 hC8
            obtain ⟨i, hi, rfl, hra, hF, hC⟩ := hrel
            by_cases hil : i < ord.length
            · obtain ⟨g, y, cur, ha, hbg, hheap, c1, c2, hset⟩ := hra.at' hil
              subst ha
              have HSET := Lib.hid hset
              have HF := Lib.hid (And.intro hF hheap)
              clear hset hra hF hheap
              go_wp2
              go_roundw
              case rel => exact ⟨i + 1, by omega, by go_num, HSET.out _, HF.out.1.over HF.out.2 (Chg.set1 _ _ _ _), hC.trans_new (Chg.set1 _ _ _ _) (by simp; omega)⟩
              case measure => simp [intOf] <;> omega
            · have di : decide (i < ord.length) = false := by simpa using hil
              go_wp2
              go_roundw
              case rel => exact ⟨j + 1, by omega, by go_num, by rw [← HK2.out]; exact hF, hC⟩
              case measure => simp [intOf] <;> omega
      · have dj : decide ((j : Int) < 3) = false := by simp; omega
        go_wp2_with fail
        refine (awake_any _).mono ?_
        rintro e w6 ⟨rfl, hc6⟩
        go_wp2
        go_ret
        exact ⟨rfl, (hC.trans hc6).below (Nat.le_refl _) (by simp)⟩

end Go.Proofs.Ytdbannnbbngckaa
