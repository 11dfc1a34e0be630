/- The walk of OrderEach. -/
import Derived.Test.YtdbannnbbngckaaOrdPl2
import Derived.Test.YtdbannnbbngckaaOrdG
import Derived.Deep.QuietTactic
import Derived.BigQuiet
namespace Go.Proofs.Ytdbannnbbngckaa
open Go.RowKit

theorem trial_q (b r L R : Nat) (us : List Up) (u : Int) (v : Bool) (hv : Hid ((getB us u).trial = v)) (w : World) (h : Book w b r L R us) :
    Calls Try.prog 17 #[.pointer (some ⟨b, 0, none⟩), .int .i64 u] w fun e w' => e = .returned (.bool v) ∧ w' = w :=
  (trial_v b r L R us u w v h hv).mono fun _ _ hh => ⟨hh.1, hh.2.symm⟩
theorem score_q (b r L R : Nat) (us : List Up) (u : Int) (v : Nat) (hv : Hid ((getB us u).score = v)) (w : World) (h : Book w b r L R us) :
    Calls Try.prog 18 #[.pointer (some ⟨b, 0, none⟩), .int .i64 u] w fun e w' => e = .returned (.int .i64 v) ∧ w' = w :=
  (score_v b r L R us u w v h hv).mono fun _ _ hh => ⟨hh.1, hh.2.symm⟩
theorem Book.drewN {w : World} {b r L R : Nat} {us : List Up} (h : Book w b r L R us) (n : Nat) : Book (w.drewN n) b r L R us := h.chg ((Chg.refl [] _).drewN _) (by simp) (by simp)

/-- What stands at a round's head of the first loop of OrderEach. -/
structure Each1 (w wr : World) (b r c rc L R ro rm gs k : Nat) (us : List Up) (ord ml : List Nat) : Prop where
  b : Book wr b r L R us
  c : Book wr c rc L R us
  po : MayAt wr ro ord
  pm : MayAt wr rm ml
  seen : SeenAt wr gs (ord.take k)
  chg : Chg [] w wr
theorem Each1.drewN {w wr : World} {b r c rc L R ro rm gs k : Nat} {us : List Up} {ord ml : List Nat} (h : Each1 w wr b r c rc L R ro rm gs k us ord ml) (n : Nat) : Each1 w (wr.drewN n) b r c rc L R ro rm gs k us ord ml :=
  ⟨h.b.chg ((Chg.refl [] _).drewN _) (by simp) (by simp), h.c.chg ((Chg.refl [] _).drewN _) (by simp) (by simp), h.po, h.pm, h.seen, h.chg.drewN _⟩
def EachR1 (w : World) (b r c rc L R ro rm gs : Nat) (us : List Up) (ord ml : List Nat) (i : Value) (wr : World) : Prop :=
  ∃ k : Nat, k ≤ ord.length ∧ i = .int .i64 k ∧ Each1 w wr b r c rc L R ro rm gs k us ord ml
def EachR2 (w : World) (b r c rc L R rm : Nat) (us : List Up) (ml : List Nat) (i : Value) (wr : World) : Prop :=
  ∃ k : Nat, k ≤ us.length ∧ i = .int .i64 k ∧ Book wr b r L R us ∧ Book wr c rc L R us ∧ MayAt wr rm ml ∧ Chg [] w wr
/-- A row of the call's own, by its block (any block where there is none). -/
theorem may_of_own' {base : Nat} {w : World} {a : Option Addr} {c : Nat} {ml : List Nat} (h : OwnI base w (.slice a ml.length c) ml) : ∃ rb, (0 < ml.length → a = some ⟨rb, 0, none⟩ ∧ base ≤ rb ∧ rb < w.heap.size) ∧ MayAt w rb ml := by
  by_cases hp : 0 < ml.length
  · obtain ⟨rb, h1, h2, h3, h4⟩ := may_of_own h hp
    exact ⟨rb, fun _ => ⟨h1, h2, h3⟩, h4⟩
  · exact ⟨0, fun hh => absurd hh hp, fun i hi => by omega⟩
theorem row_of_may {w : World} {a : Option Addr} {c rb : Nat} {ml : List Nat} (ha : 0 < ml.length → a = some ⟨rb, 0, none⟩) (h : MayAt w rb ml) : Row .i64 w (.slice a ml.length c) ml := by
  by_cases hp : 0 < ml.length
  · rw [ha hp]; exact .inr ⟨rb, c, rfl, h⟩
  · have : ml = [] := List.length_eq_zero_iff.1 (by omega)
    subst this
    exact .inl ⟨rfl, a, c, rfl⟩

set_option maxRecDepth 100000 in
set_option maxHeartbeats 8000000 in
theorem orderEach_walk (C : CaseT) (w : World) (h : IsCase w C) :
    Calls Try.prog 7 #[.agg (caseA C)] w fun e w' => e = .returned (.bool true) ∧ Below w.heap.size w w' := by
  obtain ⟨wx, wy, wz, hacts, hseed, hfirst⟩ := h
  obtain ⟨fl, hfl, hfb, hreads, _, _⟩ := D.arg_u64 hfirst
  have HA := Lib.hid hacts
  have HR := Lib.hid hreads
  have HFB := Lib.hid hfb
  have HFL := Lib.hid hfl
  clear hacts hfirst hreads hfb hfl wx wy wz
  obtain ⟨B, hB⟩ : ∃ B, B = (decide (500 < C.acts.length) || decide (500 < C.fl)) := ⟨_, rfl⟩
  have HB := Lib.hid hB
  clear hB
  have hcA : caseA C = #[.int .i64 C.x, .int .i64 C.y, .int .i64 C.z, .slice C.a C.acts.length C.ac, .int .u64 C.seed, .slice C.f C.fl C.fc] := rfl
  rw [hcA]
  have HCA := Lib.hid hcA
  clear hcA
  cases B with
  | true =>
    go_enter Try.func7, Try.ntmps7
    go_wp2_with fail
    rw [← HCA.out]
    refine (long_any C true HB _).mono ?_
    rintro e w1 ⟨rfl, hc1⟩
    have hC1 : Chg [] w w1 := ((Chg.refl _ _).alloc _).trans hc1
    try rw [HCA.out]
    go_wp2_with fail
    refine (awake_any _).mono ?_
    rintro e w2 ⟨rfl, hc2⟩
    go_wp2
    go_ret
    exact ⟨rfl, (hC1.trans hc2).below (Nat.le_refl _) (by simp)⟩
  | false =>
    have h500 : C.acts.length ≤ 500 ∧ C.fl ≤ 500 := by have := HB.out; simp at this; omega
    by_cases hnr : C.x < 1 ∨ 9 < C.x ∨ C.x % 2 = 0 ∨ C.y < 1 ∨ 100 < C.y ∨ C.z < 1 ∨ 100000 < C.z
    · have HNR := Lib.hid hnr
      clear hnr
      go_enter Try.func7, Try.ntmps7
      go_wp2_with fail
      obtain ⟨p, hp⟩ : ∃ p, p = w.heap.size := ⟨_, rfl⟩
      rw [← hp]
      refine calls_abs ?_
      intro w0 hw0
      have p0 : CaseAt w0 p C := by rw [hw0, hp]; exact heap_new _ _
      have hC0 : Chg [] w w0 := by rw [hw0]; exact (Chg.refl _ _).alloc _
      clear hw0 hp
      rw [← HCA.out]
      refine (long_any C false HB _).mono ?_
      rintro e w1 ⟨rfl, hc1⟩
      have p1 := p0.chg hc1 (by simp)
      have hC1 := hC0.trans hc1
      clear p0 hC0 hc1
      go_wp2_with fail
      refine (awake_any _).mono ?_
      rintro e w2 ⟨rfl, hc2⟩
      have p2 := p1.chg hc2 (by simp)
      have hC2 := hC1.trans hc2
      clear p1 hC1 hc2
      obtain ⟨k0, k1, k2, k3, k4, k5⟩ := p2.cells
      go_wp2_with fail
      rw [← HCA.out]
      refine (book_out C _ HNR.out).mono ?_
      rintro e w3 ⟨rfl, hc3⟩
      go_wp2
      go_ret
      exact ⟨rfl, (hC2.trans hc3).below (Nat.le_refl _) (by simp)⟩
    obtain ⟨n, L, R, hin⟩ : ∃ n L R, CaseIn C n L R :=
      ⟨C.x.toNat, C.y.toNat, C.z.toNat, by omega, by omega, by omega, by omega, by omega, by omega, by omega, by omega⟩
    have HIN := Lib.hid hin
    obtain ⟨us, hus⟩ : ∃ us, foldB L R (newB n) C.acts = us := ⟨_, rfl⟩
    have hul : us.length = n := by rw [← hus, foldB_len, newB_len]
    have hpos : 0 < us.length := by have := hin.n5; omega
    have hul9 : us.length ≤ 9 := by have := hin.n5; omega
    have HU := Lib.hid hus
    clear hnr hin hus hul
    go_enter Try.func7, Try.ntmps7
    go_wp2_with fail
    obtain ⟨p, hp⟩ : ∃ p, p = w.heap.size := ⟨_, rfl⟩
    rw [← hp]
    refine calls_abs ?_
    intro w0 hw0
    have p0 : CaseAt w0 p C := by rw [hw0, hp]; exact heap_new _ _
    have hC0 : Chg [] w w0 := by rw [hw0]; exact (Chg.refl _ _).alloc _
    have hpw : w.heap.size ≤ p := by omega
    clear hw0 hp
    rw [← HCA.out]
    refine (long_any C false HB _).mono ?_
    rintro e w1 ⟨rfl, hc1⟩
    have p1 := p0.chg hc1 (by simp)
    have hC1 := hC0.trans hc1
    clear p0 hC0 hc1
    go_wp2_with fail
    refine (awake_any _).mono ?_
    rintro e w2 ⟨rfl, hc2⟩
    have p2 := p1.chg hc2 (by simp)
    have hC2 := hC1.trans hc2
    clear p1 hC1 hc2
    obtain ⟨k0, k1, k2, k3, k4, k5⟩ := p2.cells
    go_wp2_with fail
    rw [← HCA.out]
    refine (book_in C n L R us HU HIN.out h500.1 _ (HA.out.chg hC2)).mono ?_
    rintro e w3 ⟨b, r, q, s, rfl, hB3, hLie, hwb, hc3⟩
    have p3 := p2.chg hc3 (by simp)
    have hC3 := hC2.trans hc3
    have hwr : w.heap.size ≤ r := by have := hLie.hr; have := hC2.size; omega
    have hws : w.heap.size ≤ s := by have := hLie.hs; have := hC2.size; omega
    have hwb' : w.heap.size ≤ b := by have := hC2.size; omega
    have hpb : p < w2.heap.size := lt_of_block p2
    have hpr : p ≠ r := by have := hLie.hr; omega
    have hps : p ≠ s := by have := hLie.hs; omega
    clear p2 hC2 hc3 hwb k0 k1 k2 k3 k4 k5 hpb
    obtain ⟨k0, k1, k2, k3, k4, k5⟩ := p3.cells
    have hrd3 : D.Reads .u64 w3 (.slice C.f C.fl C.fc) fl := HR.out.chg hC3 (by simp)
    have RD3 := Lib.hid hrd3
    have hfl6 : fl.length ≤ 1000000 := by rw [HFL.out]; omega
    clear hrd3
    have hB3l := hB3.l
    clear hB3
    go_wp2_with fail
    refine (copy_any b r L R us _ hB3l hpos).mono ?_
    rintro e w4 ⟨c, rc, rfl, hwc, hwrc, c4, hc4⟩
    have b4 := hB3l.chg hc4 (by simp) (by simp)
    have hC4 := hC3.trans hc4
    have p4 := p3.chg hc4 (by simp)
    have hrd4 : D.Reads .u64 w4 (.slice C.f C.fl C.fc) fl := RD3.out.chg hc4 (by simp)
    have RD4 := Lib.hid hrd4
    clear hB3l hC3 hc4 k0 k1 k2 k3 k4 k5 p3 RD3 hwc hwrc hrd4
    obtain ⟨k0, k1, k2, k3, k4, k5⟩ := p4.cells
    go_wp2_with fail
    refine (D.new_any C.seed _ fl _ hfl6 HFB.out RD4.out).mono ?_
    rintro e w5 ⟨t, rfl, hwt, t5, hc5⟩
    have b5 := b4.chg hc5 (by simp) (by simp)
    have c5 := c4.chg hc5 (by simp) (by simp)
    have hC5 := hC4.trans hc5
    have hwt' : w.heap.size ≤ t := by have := hC4.size; omega
    clear b4 c4 hC4 hc5 hwt k0 k1 k2 k3 k4 k5 p4 RD4
    have hct := (tape_book t5 c5).1
    have hrct := (tape_book t5 c5).2
    obtain ⟨ml, hml⟩ : ∃ ml, mayN us = ml := ⟨_, rfl⟩
    obtain ⟨ord, hord⟩ : ∃ ord, ordN us (D.drawN C.seed fl) 0 = ord := ⟨_, rfl⟩
    have hol : ord.length = ml.length := by rw [← hord, ordN_len, hml]
    have hml9 : ml.length ≤ 9 := by rw [← hml]; exact Nat.le_trans (idxN_len _ _ _) hul9
    have HMEM : Hid (∀ i (hi : i < ord.length), ord[i] < us.length ∧ (getB us ((ord[i] : Nat) : Int)).rests = false) := Lib.hid (fun i hi => by subst hord; exact ordN_mem (List.getElem_mem hi))
    have HNOD : Hid (ord.Nodup) := Lib.hid (by rw [← hord]; exact ordN_nodup _ _ _)
    have HRIS : Hid (RisesK (keyE (scU us) (trU us)) ord) := Lib.hid (by rw [← hord]; exact ordN_rises _ _ _)
    have HML := Lib.hid hml
    have HO := Lib.hid hord
    have HSC := Lib.hid (scU_le b5.ok)
    have HOL := Lib.hid hol
    clear hml hord hol
    go_wp2_with fail
    refine (order_any b r L R t C.seed 0 fl us ord _ b5 t5 (by decide) HO).mono ?_
    rintro e w6 ⟨a6, c6, rfl, own6, b6, t6, hc6⟩
    rw [HML.out, Nat.zero_add] at t6
    have cc6 := c5.chg hc6 (by simpa using hct) (by simpa using hrct)
    have hC6 : Chg [] w w6 := hC5.trans_new hc6 (by simpa using hwt')
    obtain ⟨ro, hro, mo6⟩ := may_of_own' own6
    have hs5 : w.heap.size ≤ w5.heap.size := hC5.size
    clear b5 c5 t5 hC5 hc6 own6
    go_wp2_with fail
    refine (may_v b r L R us _ ml b6 HML).mono ?_
    rintro e w7 ⟨a7, c7, rfl, own7, hc7⟩
    have b7 := b6.chg hc7 (by simp) (by simp)
    have cc7 := cc6.chg hc7 (by simp) (by simp)
    have t7 := t6.chg hc7 (by simp) (by simp)
    have mo7 := mo6.chg hc7 (by simp)
    have hC7 := hC6.trans hc7
    obtain ⟨rm, hrm, mm7⟩ := may_of_own' own7
    have hs6 : w.heap.size ≤ w6.heap.size := hC6.size
    have hro' : 0 < ord.length → a6 = some ⟨ro, 0, none⟩ := fun h => (hro h).1
    have hrm' : 0 < ml.length → a7 = some ⟨rm, 0, none⟩ := fun h => (hrm h).1
    have HRO := Lib.hid hro'
    have HRM := Lib.hid hrm'
    have hro2 : 0 < ord.length → ro < w7.heap.size := fun h => Nat.lt_of_lt_of_le (hro h).2.2 hc7.size
    have hrm2 : 0 < ml.length → rm < w7.heap.size := fun h => (hrm h).2.2
    have HLT := Lib.hid (And.intro hro2 hrm2)
    clear b6 cc6 t6 mo6 hC6 hc7 own7 hro hrm hro' hrm' hro2 hrm2
    obtain ⟨m1, hm1⟩ : ∃ m1, m1 = ml.length - 1 := ⟨_, rfl⟩
    rw [← hm1] at t7
    have hol := HOL.out
    have q1 : (if (0 : Int) < (ml.length : Int) - 1 then (ml.length : Int) - 1 else 0) = (m1 : Int) := by split <;> omega
    have q2 : (if (1 : Int) < (ml.length : Int) then (ml.length : Int) - 1 else 0) = (m1 : Int) := by split <;> omega
    have q3 : (if 1 < ml.length then (ml.length : Int) - 1 else 0) = (m1 : Int) := by split <;> omega
    have hmI : (ml.length : Int) ≤ 9 := by omega
    rw [hol]
    clear hol hm1
    go_wp2_with fail
    refine (D.used_any t C.seed fl m1 _ t7).mono ?_
    rintro e w8 ⟨rfl, rfl⟩
    clear t7
    go_wp2_with fail
    clear q1 q2 q3
    obtain ⟨gs, hgs⟩ : ∃ gs, gs = w7.heap.size := ⟨_, rfl⟩
    rw [← hgs]
    refine wp_abs ?_
    intro w8 hw8
    have hcx : Chg [] w7 w8 := by rw [hw8]; exact (Chg.refl _ _).alloc _
    have s8 : SeenAt w8 gs (ord.take 0) := by rw [hw8, hgs]; exact heap_new _ _
    have ST8 : Hid (Each1 w w8 b r c rc L R ro rm gs 0 us ord ml) := Lib.hid ⟨b7.chg hcx (by simp) (by simp), cc7.chg hcx (by simp) (by simp), mo7.chg hcx (by simp), mm7.chg hcx (by simp), s8, hC7.trans hcx⟩
    have hbg : b ≠ gs ∧ r ≠ gs ∧ c ≠ gs ∧ rc ≠ gs := by have := b7.lt; have := b7.ltr; have := cc7.lt; have := cc7.ltr; omega
    have HG : Hid ((0 < ord.length → ro ≠ gs) ∧ (0 < ml.length → rm ≠ gs)) := Lib.hid ⟨fun h => by have := HLT.out.1 h; omega, fun h => by have := HLT.out.2 h; omega⟩
    have hwg : w.heap.size ≤ gs := by have := hC7.size; omega
    clear hw8 hgs hcx s8 b7 cc7 mo7 mm7 hC7 HLT
    have hol := HOL.out
    rw [← hol]
    clear hol
    go_wp2_with fail
    go_loopw [10] (EachR1 w b r c rc L R ro rm gs us ord ml) (fun i _ => ord.length - (intOf i).toNat)
    case atStart => exact ⟨0, Nat.zero_le _, rfl, ST8.out⟩
    case round =>
      clear ST8
      obtain ⟨k, hk, rfl, hst⟩ := hrel
      by_cases hko : k < ord.length
      · obtain ⟨x, hx⟩ : ∃ x, x = ord[k] := ⟨_, rfl⟩
        have hxm := HMEM.out k hko
        rw [← hx] at hxm
        have hx9 : x < 9 := by omega
        have hk9 : k < 9 := by have := HOL.out; omega
        have ha := HRO.out (by omega)
        have hrog := HG.out.1 (by omega)
        subst ha
        have k1 : wr.cell? ⟨ro, k, none⟩ = some (.int .i64 (x : Nat)) := by rw [hx]; exact hst.po k hko
        have hxn : x ∉ ord.take k := by
          intro hm
          obtain ⟨i, hi, he⟩ := List.mem_iff_getElem.1 hm
          simp at hi
          rw [List.getElem_take, hx] at he
          exact List.pairwise_iff_getElem.1 HNOD.out i k (by omega) hko (by omega) he
        have k2 : wr.cell? ⟨gs, x, none⟩ = some (.bool false) := by
          rw [cell_of hst.seen, List.getElem?_toArray, seenV_get _ x hx9, decide_eq_false hxn]
        have k3 : wr.frozen? ⟨gs, x, none⟩ = false := free_of hst.seen
        have HSEEN : Hid (SeenAt (wr.setCell ⟨gs, x, none⟩ (.bool true)) gs (ord.take (k + 1))) := by
          refine Lib.hid ?_
          unfold SeenAt
          rw [heap_set hst.seen, List.setIfInBounds_toArray, seenV_set _ x hx9, List.take_succ_eq_append_getElem hko, hx]
        have HR : Hid ((getB us (x : Int)).rests = false) := Lib.hid hxm.2
        have hb := hst.b
        have HST := Lib.hid hst
        have hxI : (x : Int) < 9 := by omega
        have hkI : (k : Int) < (ord.length : Int) := by omega
        have hx0 : decide ((x : Int) < 0) = false := by simp
        have hx9' : decide ((9 : Int) ≤ (x : Int)) = false := by simp; omega
        have HX := Lib.hid hx
        clear hx hxm hxn hst
        go_wp2_with fail
        refine (rests_v b r L R us x _ false hb HR).mono ?_
        rintro e w9 ⟨rfl, rfl⟩
        go_upto_region 19 with (fail)
        refine wp_abs ?_
        intro w9 hw9
        have hcg : Chg [gs] wr w9 := by rw [hw9]; exact Chg.set1 _ _ _ _
        have ST9 : Hid (Each1 w w9 b r c rc L R ro rm gs (k + 1) us ord ml) := by
          refine Lib.hid ⟨HST.out.b.chg hcg (by simpa using hbg.1) (by simpa using hbg.2.1), HST.out.c.chg hcg (by simpa using hbg.2.2.1) (by simpa using hbg.2.2.2), HST.out.po.chg hcg (by simpa using hrog), HST.out.pm.chg hcg ?_, ?_, HST.out.chg.trans_new hcg (by simpa using hwg)⟩
          · have := HG.out.2 (by rw [← HOL.out]; omega); simpa using this
          · rw [hw9]; exact HSEEN.out
        clear hw9 hcg HST HSEEN k2 k3 hb k1
        have hb9 := ST9.out.b
        have k1 : w9.cell? ⟨ro, k, none⟩ = some (.int .i64 (x : Nat)) := by rw [HX.out]; exact ST9.out.po k hko
        by_cases hk0 : k = 0
        · subst hk0
          go_quiet (fail)
          go_wp2
          go_roundw
          case rel => exact ⟨1, hko, rfl, ST9.out.drewN _⟩
          case measure => simp [intOf] <;> omega
        · obtain ⟨y, hy⟩ : ∃ y, y = ord[k - 1] := ⟨_, rfl⟩
          have k4 : w9.cell? ⟨ro, k - 1, none⟩ = some (.int .i64 (y : Nat)) := by rw [hy]; exact ST9.out.po (k - 1) (by omega)
          have hkey : keyE (scU us) (trU us) y ≤ keyE (scU us) (trU us) x := by
            rw [hy, HX.out]
            exact List.pairwise_iff_getElem.1 HRIS.out (k - 1) k (by omega) hko (by omega)
          obtain ⟨hp1, hp2⟩ := key_pair (HSC.out x) (HSC.out y) hkey
          obtain ⟨tx, htx⟩ : ∃ tx, trU us x = tx := ⟨_, rfl⟩
          obtain ⟨ty, hty⟩ : ∃ ty, trU us y = ty := ⟨_, rfl⟩
          obtain ⟨sx, hsx⟩ : ∃ sx, scU us x = sx := ⟨_, rfl⟩
          obtain ⟨sy, hsy⟩ : ∃ sy, scU us y = sy := ⟨_, rfl⟩
          rw [htx, hty] at hp1 hp2
          rw [hsx, hsy] at hp2
          have HTX : Hid ((getB us (x : Int)).trial = tx) := Lib.hid htx
          have HTY : Hid ((getB us (y : Int)).trial = ty) := Lib.hid hty
          have HSX : Hid ((getB us (x : Int)).score = sx) := Lib.hid hsx
          have HSY : Hid ((getB us (y : Int)).score = sy) := Lib.hid hsy
          have i1 : (1 : Int) ≤ (k : Int) := by omega
          have i2 : (0 : Int) < (k : Int) := by omega
          have i3 : (0 : Int) ≤ (k : Int) - 1 := by omega
          have i4 : (k : Int) - 1 < (ord.length : Int) := by omega
          have i5 : 0 < k := by omega
          have i6 : (k : Int) ≤ (ord.length : Int) := by omega
          have e1 : IntKind.i64.wrap ((k : Int) - 1) = (k : Int) - 1 := IntWalk.i64_in _ (by omega)
          have e2 : ((k : Int) - 1).toNat = k - 1 := by omega
          clear htx hty hsx hsy hy hkey hk0
          cases ty <;> cases tx
          · have hss : decide (sy < sx) = false := by simpa using hp2 rfl
            have hss' : decide ((sy : Int) < (sx : Int)) = false := by have := hp2 rfl; simp; omega
            clear hp1 hp2
            go_quiet ((first | (go_at_call 17; first | (with_reducible exact Calls.quiet_of_same (trial_q b r L R us (x : Int) false HTX _ (Book.drewN hb9 _))) | (with_reducible exact Calls.quiet_of_same (trial_q b r L R us (y : Int) false HTY _ (Book.drewN hb9 _)))) | (go_at_call 18; first | (with_reducible exact Calls.quiet_of_same (score_q b r L R us (x : Int) sx HSX _ (Book.drewN hb9 _))) | (with_reducible exact Calls.quiet_of_same (score_q b r L R us (y : Int) sy HSY _ (Book.drewN hb9 _))))))
            clear e1 e2
            go_wp2
            go_roundw
            case rel => exact ⟨k + 1, hko, by go_num, ST9.out.drewN _⟩
            case measure => simp [intOf] <;> omega
          · clear hp1 hp2
            go_quiet ((first | (go_at_call 17; first | (with_reducible exact Calls.quiet_of_same (trial_q b r L R us (x : Int) true HTX _ (Book.drewN hb9 _))) | (with_reducible exact Calls.quiet_of_same (trial_q b r L R us (y : Int) false HTY _ (Book.drewN hb9 _)))) | (go_at_call 18; first | (with_reducible exact Calls.quiet_of_same (score_q b r L R us (x : Int) sx HSX _ (Book.drewN hb9 _))) | (with_reducible exact Calls.quiet_of_same (score_q b r L R us (y : Int) sy HSY _ (Book.drewN hb9 _))))))
            clear e1 e2
            go_wp2
            go_roundw
            case rel => exact ⟨k + 1, hko, by go_num, ST9.out.drewN _⟩
            case measure => simp [intOf] <;> omega
          · exact absurd ⟨rfl, rfl⟩ hp1
          · have hss : decide (sy < sx) = false := by simpa using hp2 rfl
            have hss' : decide ((sy : Int) < (sx : Int)) = false := by have := hp2 rfl; simp; omega
            clear hp1 hp2
            go_quiet ((first | (go_at_call 17; first | (with_reducible exact Calls.quiet_of_same (trial_q b r L R us (x : Int) true HTX _ (Book.drewN hb9 _))) | (with_reducible exact Calls.quiet_of_same (trial_q b r L R us (y : Int) true HTY _ (Book.drewN hb9 _)))) | (go_at_call 18; first | (with_reducible exact Calls.quiet_of_same (score_q b r L R us (x : Int) sx HSX _ (Book.drewN hb9 _))) | (with_reducible exact Calls.quiet_of_same (score_q b r L R us (y : Int) sy HSY _ (Book.drewN hb9 _))))))
            clear e1 e2
            go_wp2
            go_roundw
            case rel => exact ⟨k + 1, hko, by go_num, ST9.out.drewN _⟩
            case measure => simp [intOf] <;> omega
      · obtain rfl : k = ord.length := by omega
        have dk : decide (ord.length < ord.length) = false := by simp
        have b9 := hst.b
        have c9 := hst.c
        have m9 := hst.pm
        have hC9 := hst.chg
        have M9 := Lib.hid m9
        clear hst m9
        go_wp2_with fail
        go_loopw [11] (EachR2 w b r c rc L R rm us ml) (fun i _ => us.length - (intOf i).toNat)
        case atStart => exact ⟨0, Nat.zero_le _, rfl, b9, c9, M9.out, hC9⟩
        case round =>
          clear b9 c9 M9 hC9
          obtain ⟨j, hj, rfl, bj, cj, mj, hC⟩ := hrel
          have MJ := Lib.hid mj
          clear mj
          by_cases hjl : j < us.length
          · obtain ⟨sj, hsj⟩ : ∃ sj, (getB us (j : Int)).score = sj := ⟨_, rfl⟩
            obtain ⟨rj, hrj⟩ : ∃ rj, (getB us (j : Int)).rests = rj := ⟨_, rfl⟩
            obtain ⟨tj, htj⟩ : ∃ tj, (getB us (j : Int)).trial = tj := ⟨_, rfl⟩
            have HSJ := Lib.hid hsj
            have HRJ := Lib.hid hrj
            have HTJ := Lib.hid htj
            clear hsj hrj htj
            go_wp2_with fail
            refine (len_any b r L R us _ bj).mono ?_
            rintro e w9 ⟨rfl, rfl⟩
            go_wp2_with fail
            refine (score_v b r L R us j _ sj bj HSJ).mono ?_
            rintro e w9 ⟨rfl, rfl⟩
            go_wp2_with fail
            refine (score_v c rc L R us j _ sj cj HSJ).mono ?_
            rintro e w9 ⟨rfl, rfl⟩
            go_wp2_with fail
            refine (rests_v b r L R us j _ rj bj HRJ).mono ?_
            rintro e w9 ⟨rfl, rfl⟩
            go_wp2_with fail
            refine (rests_v c rc L R us j _ rj cj HRJ).mono ?_
            rintro e w9 ⟨rfl, rfl⟩
            go_wp2_with fail
            refine (trial_v b r L R us j _ tj bj HTJ).mono ?_
            rintro e w9 ⟨rfl, rfl⟩
            go_wp2_with fail
            refine (trial_v c rc L R us j _ tj cj HTJ).mono ?_
            rintro e w9 ⟨rfl, rfl⟩
            go_wp2
            go_roundw
            case rel => exact ⟨j + 1, hjl, by go_num, bj, cj, MJ.out, hC⟩
            case measure => simp [intOf] <;> omega
          · have dj : decide (j < us.length) = false := by simpa using hjl
            go_wp2_with fail
            refine (len_any b r L R us _ bj).mono ?_
            rintro e w9 ⟨rfl, rfl⟩
            go_wp2_with fail
            refine (may_v b r L R us _ ml bj HML).mono ?_
            rintro e w10 ⟨a10, c10, rfl, own10, hc10⟩
            have OWN10 := Lib.hid own10
            have M10 := MJ.out.chg hc10 (by simp)
            have hC10 := hC.trans hc10
            have hol := HOL.out
            rw [hol]
            clear own10 bj cj hc10 MJ hC hol
            go_wp2_with fail
            refine (ints_c _ _ ml ml true (Lib.hid (by simp)) _ (row_of_own OWN10.out) (row_of_may HRM.out M10) (by omega) (by omega)).mono ?_
            rintro e w11 ⟨rfl, hc11⟩
            have hC11 := hC10.trans hc11
            go_wp2
            go_ret
            exact ⟨rfl, hC11.below (Nat.le_refl _) (by simp)⟩

end Go.Proofs.Ytdbannnbbngckaa
