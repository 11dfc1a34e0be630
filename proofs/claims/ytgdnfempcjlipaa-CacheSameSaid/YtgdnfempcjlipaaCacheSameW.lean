/- The walk of CacheSame. -/
import Derived.Test.YtgdnfempcjlipaaCacX
import Derived.Test.YtgdnfempcjlipaaActs16
namespace Go.Proofs.Ytgdnfempcjlipaa
open Go.ChangeShapes Go.WideShapes Go.Deep Go.RowKit

theorem adv_one {f : Qn} {v : Ver} {now til t : Int} (h0 : now ≤ t) (h1 : t ≤ 1000) (h2 : t < til) : advC ⟨now, [⟨f, v, til⟩]⟩ t = ⟨t, [⟨f, v, til⟩]⟩ := by
  have e : clampT now t = t := by unfold clampT topT; omega
  unfold advC
  simp only
  rw [e]
  unfold expM
  rw [List.filter_cons, if_pos (by simpa using h2)]
  rfl
theorem same1 {x : Qn} (h : mayQ x = true) : keepC 6 ⟨0, []⟩ x (saysV 1) 100 0 = ⟨0, [⟨foldQ x, saysV 1, 100⟩]⟩ := by
  have hok : okK x 100 = true := by unfold okK; rw [h]; rfl
  unfold keepC
  rw [if_pos hok]
  rfl
theorem got_one {f q : Qn} {v : Ver} {now til t : Int} (h0 : now ≤ t) (h1 : t ≤ 1000) (h2 : t < til) (hq : mayQ q = true) : gotC ⟨now, [⟨f, v, til⟩]⟩ q t = if foldQ q = f then some ⟨f, v, til⟩ else none := by
  unfold gotC
  rw [if_pos hq, adv_one h0 h1 h2]
  unfold getM
  by_cases e : foldQ q = f
  · rw [if_pos e]
    simp [e]
  · rw [if_neg e]
    simp
    exact fun h => e h.symm
theorem find_one {f q : Qn} {v : Ver} {now til t : Int} (h0 : now ≤ t) (h1 : t ≤ 1000) (h2 : t < til) (hq : mayQ q = true) (hf : foldQ q = f) : findC ⟨now, [⟨f, v, til⟩]⟩ q t = ⟨t, [⟨f, v, til⟩]⟩ := by
  unfold findC
  rw [if_pos hq, adv_one h0 h1 h2]
  unfold useM getM
  simp [hf, dropM]
theorem keep_one {f q : Qn} {v u : Ver} {now til t life : Int} (h0 : now ≤ t) (h1 : t ≤ 1000) (h2 : t < til) (hq : mayQ q = true) (hf : foldQ q = f) (hl : 1 ≤ life ∧ life ≤ 1000) : keepC 6 ⟨now, [⟨f, v, til⟩]⟩ q u life t = ⟨t, [⟨f, u, t + life⟩]⟩ := by
  have hok : okK q life = true := by unfold okK; rw [hq]; simp; omega
  have e : min life topT = life := by unfold topT; omega
  unfold keepC
  rw [if_pos hok, adv_one h0 h1 h2, hf, e]
  simp [keepM, hasM, dropM]
theorem c6_chg {w w' : World} {p0 p1 p2 p3 p4 p5 : Addr} {v0 v1 v2 v3 v4 v5 : Value} (h : w.cell? p0 = some v0 ∧ w.cell? p1 = some v1 ∧ w.cell? p2 = some v2 ∧ w.cell? p3 = some v3 ∧ w.cell? p4 = some v4 ∧ w.cell? p5 = some v5) (hc : Chg [] w w') :
    w'.cell? p0 = some v0 ∧ w'.cell? p1 = some v1 ∧ w'.cell? p2 = some v2 ∧ w'.cell? p3 = some v3 ∧ w'.cell? p4 = some v4 ∧ w'.cell? p5 = some v5 :=
  ⟨hc.cell h.1 (by simp), hc.cell h.2.1 (by simp), hc.cell h.2.2.1 (by simp), hc.cell h.2.2.2.1 (by simp), hc.cell h.2.2.2.2.1 (by simp), hc.cell h.2.2.2.2.2 (by simp)⟩
def QAt (w : World) (b : Nat) (q : Qn) : Prop := w.heap[b]? = some (.cells #[.string q.nm, .int .u16 (q.ty : Nat), .int .u16 (q.cl : Nat)] 24 (0, 0))
theorem QAt.cchg {w w' : World} {b : Nat} {q : Qn} (h : QAt w b q) (hc : CChg w w') : QAt w' b q := hc.keep h (by decide)
theorem QAt.same {w w' : World} {b : Nat} {q : Qn} (h : QAt w b q) (hc : Chg [] w w') : QAt w' b q := hc.keep h (by simp)
theorem QAt.c3 {w : World} {b : Nat} {q : Qn} (h : QAt w b q) : w.cell? ⟨b, 0, none⟩ = some (.string q.nm) ∧ w.cell? ⟨b, 1, none⟩ = some (.int .u16 (q.ty : Nat)) ∧ w.cell? ⟨b, 2, none⟩ = some (.int .u16 (q.cl : Nat)) := ⟨cell_of h, cell_of h, cell_of h⟩
theorem QAt.c33 {w : World} {b b' : Nat} {q q' : Qn} (h : QAt w b q) (h' : QAt w b' q') : w.cell? ⟨b, 0, none⟩ = some (.string q.nm) ∧ w.cell? ⟨b, 1, none⟩ = some (.int .u16 (q.ty : Nat)) ∧ w.cell? ⟨b, 2, none⟩ = some (.int .u16 (q.cl : Nat)) ∧ w.cell? ⟨b', 0, none⟩ = some (.string q'.nm) ∧ w.cell? ⟨b', 1, none⟩ = some (.int .u16 (q'.ty : Nat)) ∧ w.cell? ⟨b', 2, none⟩ = some (.int .u16 (q'.cl : Nat)) := ⟨cell_of h, cell_of h, cell_of h, cell_of h', cell_of h', cell_of h'⟩

set_option maxRecDepth 100000 in
set_option maxHeartbeats 4000000 in
theorem cacheSame_walk (x : Qn) (kind class' : Int) (w : World) (hx : OkQ x) (hk : (Lit.int .u16 kind).wf = true) (hc : (Lit.int .u16 class').wf = true) :
    Calls Try.prog 3 #[.agg (qV x), .int .u16 kind, .int .u16 class'] w fun e w' => e = .returned (.bool true) ∧ Below w.heap.size w w' := by
  obtain ⟨nm, ty, cl⟩ := x
  unfold qV
  simp only
  obtain ⟨hq1, hq2, hq3⟩ := hx
  simp only at hq1 hq2 hq3
  have hk' : 0 ≤ kind ∧ kind < 65536 := by
    simp [Lit.wf, IntKind.min, IntKind.max, IntKind.signed, IntKind.bits] at hk
    omega
  have hc' : 0 ≤ class' ∧ class' < 65536 := by
    simp [Lit.wf, IntKind.min, IntKind.max, IntKind.signed, IntKind.bits] at hc
    omega
  obtain ⟨kd, rfl⟩ : ∃ kd : Nat, kind = (kd : Int) := ⟨kind.toNat, by omega⟩
  obtain ⟨cd, rfl⟩ : ∃ cd : Nat, class' = (cd : Int) := ⟨class'.toNat, by omega⟩
  have hkd : kd < 65536 := by omega
  have hcd : cd < 65536 := by omega
  clear hk hc hk' hc'
  by_cases h3 : 3000 < nm.size
  · have t1 : decide ((3000 : Int) < (nm.size : Int)) = true := by simp; omega
    have t1n : decide (3000 < nm.size) = true := by simpa using h3
    go_enter Try.func3, Try.ntmps3
    go_wp2_with fail
    refine (awake_any _).mono ?_
    rintro e w9 ⟨rfl, hc9⟩
    go_wp2
    go_ret
    exact ⟨rfl, ((((Chg.refl [] w).alloc _)).trans hc9).below (Nat.le_refl _) (by simp)⟩
  · have t1 : decide ((3000 : Int) < (nm.size : Int)) = false := by simp; omega
    have t1n : decide (3000 < nm.size) = false := by simpa using h3
    have hn3 : nm.size ≤ 3000 := by omega
    obtain ⟨mb, hmb⟩ : ∃ b, b = mayB nm.data.toList := ⟨_, rfl⟩
    have HMB := Lib.hid hmb
    clear hmb h3
    go_enter Try.func3, Try.ntmps3
    go_wp2_with fail
    obtain ⟨xb, hxb⟩ : ∃ xb, xb = w.heap.size := ⟨_, rfl⟩
    rw [← hxb]
    refine calls_abs ?_
    intro w0 hw0
    have hc0 : Chg [] w w0 := by rw [hw0]; exact (Chg.refl _ _).alloc _
    have hX0 : QAt w0 xb ⟨nm, ty, cl⟩ := by unfold QAt; rw [hw0, hxb]; exact heap_new _ _
    have HC0 := Lib.hid hc0
    have HX0 := Lib.hid hX0
    have HXB := Lib.hid hxb
    clear hw0 hc0 hX0 hxb
    refine (may_any nm mb w0 (by unfold maxLen; omega) HMB).mono ?_
    rintro e9 w9 ⟨rfl, rfl⟩
    cases mb with
    | false =>
      go_wp2_with fail
      refine (awake_any _).mono ?_
      rintro e w9 ⟨rfl, hc9⟩
      have HEND := Lib.hid ((HC0.out.trans hc9).below (Nat.le_refl w.heap.size) (by simp))
      clear hc9
      go_wp2
      go_ret
      exact ⟨rfl, HEND.out⟩
    | true =>
      have hmq : mayQ ⟨nm, ty, cl⟩ = true := HMB.out.symm
      have HMQ := Lib.hid hmq
      clear hmq
      go_wp2_with fail
      refine (awake_any _).mono ?_
      rintro e w1 ⟨rfl, hc1⟩
      have HX1 := Lib.hid (HX0.out.same hc1)
      have HC1 := Lib.hid (HC0.out.trans hc1)
      clear hc1 HX0 HC0
      go_wp2_with fail
      refine (made_c (Cabs.nil (P := 0) HC1.out) 5 3 6 (by omega) (Lib.hid (by decide))).mono ?_
      rintro e w2 ⟨cb, rfl, hT2, hc2⟩
      have HT2 : Hid (Cabs w w2 0 [⟨cb, 6, 3, 5, ⟨0, []⟩⟩]) := Lib.hid hT2
      have HX2 := Lib.hid (HX1.out.same hc2)
      have S2 := Lib.hid HX2.out.c3
      clear hT2 hc2 HX1 HC1
      go_wp2_with fail
      have hok1 : Hid ((0 : Int) = if okK ⟨nm, ty, cl⟩ 100 = true then 0 else 1) := Lib.hid (by
        have : okK ⟨nm, ty, cl⟩ 100 = true := by unfold okK; rw [HMQ.out]; rfl
        rw [if_pos this])
      have hmax : nm.size ≤ maxLen := by unfold maxLen; omega
      go_region_held3 (fun W => W.cell? ⟨xb, 0, none⟩ = some (.string nm) ∧ W.cell? ⟨xb, 1, none⟩ = some (.int .u16 (ty : Nat)) ∧ W.cell? ⟨xb, 2, none⟩ = some (.int .u16 (cl : Nat))) (first | (with_reducible exact S4.out) | (with_reducible exact S3.out) | exact S2.out) (first | (go_at_call 12; refine (says_any 1 w2.drew (by omega)).mono ?_; rintro e9 w3 ⟨sa, oa, rfl, hs3, hc3⟩; replace hc3 := hc3.undrew; have HT3 := Lib.hid (HT2.out.same hc3); have HX3 := Lib.hid (HX2.out.same hc3); have S3 := Lib.hid HX3.out.c3; have HS3 := Lib.hid (hs3.low (Nat.zero_le _)); clear hs3 hc3) | (go_at_call 11; refine (keep_c HT3.out (i := 0) rfl ⟨nm, ty, cl⟩ 1 sa oa 1 1 0 0 (saysV 1) 100 0 (by omega) hmax hq2 hq3 (by omega) (.inr HS3.out) 0 hok1).mono ?_; rintro e9 w4 ⟨rfl, hT4, hcc4⟩; have HX4 := Lib.hid (HX3.out.cchg hcc4); have S4 := Lib.hid HX4.out.c3; clear hcc4))
      have hT4' : Cabs w w4 1 [⟨cb, 6, 3, 5, ⟨0, [⟨foldQ ⟨nm, ty, cl⟩, saysV 1, 100⟩]⟩⟩] := by rw [← same1 HMQ.out]; exact hT4
      have HT4 := Lib.hid hT4'
      clear hT4 hT4' hok1 S2 S3 S4 HX2 HX3 HT2 HT3 HS3
      have hcv := run_bytes_of_string (P := Try.prog) w4 9 36 5 nm Try.underlying9 Try.underlying36 Try.underlying5
      have hsl := size_list nm
      obtain ⟨cap, hcap⟩ : ∃ cap, cap = grownCap w4 nm.size 0 5 := ⟨_, rfl⟩
      rw [← hcap] at hcv
      have hnew := upAt_new nm w4 cap
      have hC := ((Chg.refl [] w4).drew).alloc (.cells (bytesRow nm cap) 5 ((bytesRow nm cap).size, (bytesRow nm cap).size + 1))
      obtain ⟨w5, hw5⟩ : ∃ w5, w5 = w4.drew.alloc (.cells (bytesRow nm cap) 5 ((bytesRow nm cap).size, (bytesRow nm cap).size + 1)) := ⟨_, rfl⟩
      rw [← hw5] at hcv hnew hC
      obtain ⟨B, hB⟩ : ∃ B, B = w4.heap.size := ⟨_, rfl⟩
      have hBw : w4.heap.size ≤ B := by omega
      rw [← hB] at hcv hnew
      have HNEW := Lib.hid hnew
      have HSL := Lib.hid hsl
      have HC5 := Lib.hid hC
      obtain ⟨x0, x1, x2⟩ := HX4.out.c3
      simp only at x0 x1 x2
      clear hcap hnew hw5 hB hsl hC x1 x2
      go_wp2_with fail
      clear x0
      go_loopw [9] (UpR nm.data.toList B w4) (fun v _ => nm.size - (intOf v).toNat)
      case atStart => exact ⟨0, Nat.zero_le _, rfl, HNEW.out, HC5.out⟩
      case round =>
        clear HNEW HC5 hcv
        obtain ⟨j, hj, rfl, hL, hck⟩ := hrel
        rw [HSL.out] at hj
        by_cases hlt : j < nm.size
        · have hjl : j < nm.data.toList.length := by rw [HSL.out]; exact hlt
          have k1 := hL.cell hjl
          have f1 := hL.free hjl
          rw [if_neg (by omega)] at k1
          obtain ⟨c, hc⟩ : ∃ c, c = nm.data.toList[j] := ⟨_, rfl⟩
          have hset := hL.set hjl
          have hskip := hL.skip hjl
          rw [← hc] at k1 hset hskip
          have hc8 : c.toNat ≤ 255 := by have := UInt8.toNat_lt c; omega
          have HSET := Lib.hid hset
          have HSKIP := Lib.hid hskip
          clear hc hset hskip hL hjl
          by_cases hup : 97 ≤ c.toNat ∧ c.toNat ≤ 122
          · have hv := upC_val hup
            have t1 : decide (97 ≤ c.toNat) = true := by simp; omega
            have t2 : decide (c.toNat ≤ 122) = true := by simp; omega
            have t1I : decide ((97 : Int) ≤ (c.toNat : Int)) = true := by simp; omega
            have t2I : decide ((c.toNat : Int) ≤ 122) = true := by simp; omega
            have hb1 : c.toNat ≤ 122 := hup.2
            have hb0 : 97 ≤ c.toNat := hup.1
            have HV := Lib.hid hv
            clear hup hv
            go_wp2
            go_roundw
            case rel =>
              refine ⟨j + 1, by rw [HSL.out]; omega, by go_num, ?_, hck.setCell (.inr hBw) _⟩
              have := HSET.out
              rw [HV.out, Int.ofNat_sub (by omega)] at this
              exact this
            case measure => simp [intOf] <;> omega
          · have hno : upC c = c := by unfold upC; rw [if_neg hup]
            have HNO := Lib.hid hno
            by_cases h65 : 97 ≤ c.toNat
            case' pos =>
              have t1 : decide (97 ≤ c.toNat) = true := by simpa using h65
              have t1I : decide ((97 : Int) ≤ (c.toNat : Int)) = true := by simp; omega
              have t2 : decide (c.toNat ≤ 122) = false := by simp; omega
              have t2I : decide ((c.toNat : Int) ≤ 122) = false := by simp; omega
            case' neg =>
              have t1 : decide (97 ≤ c.toNat) = false := by simpa using h65
              have t1I : decide ((97 : Int) ≤ (c.toNat : Int)) = false := by simp; omega
            all_goals
              clear hup hno h65
              go_wp2
              go_roundw
              case rel => exact ⟨j + 1, by rw [HSL.out]; omega, by go_num, HSKIP.out HNO.out, hck⟩
              case measure => simp [intOf] <;> omega
        · obtain rfl : j = nm.size := by omega
          have hback := run_convert_bytes_back (P := Try.prog) (wr.alloc (.cells #[.string nm, .int .u16 (ty : Nat), .int .u16 (cl : Nat)] 24)) 36 9 5 ⟨B, 0, none⟩ cap (upL nm.data.toList) Try.underlying36 Try.underlying5 Try.underlying9 (by
            intro i hi
            rw [upL_len] at hi
            have ea : (⟨B, 0, none⟩ : Addr).add i = ⟨B, i, none⟩ := by unfold Addr.add; split <;> simp_all
            rw [ea]
            refine ((Chg.refl [] wr).alloc _).cell ?_ (by simp)
            rw [hL.cell hi, if_pos (by rw [← HSL.out]; exact hi)]
            simp [upL])
          rw [upL_len, HSL.out] at hback
          obtain ⟨un, hun⟩ : ∃ un, un = upS nm := ⟨_, rfl⟩
          rw [show (⟨(upL nm.data.toList).toArray⟩ : ByteArray) = un from hun.symm] at hback
          have HUN := Lib.hid hun
          have HXr := Lib.hid (HX4.out.same hck)
          have HTr := Lib.hid (HT4.out.same hck)
          obtain ⟨x0, x1, x2⟩ := HXr.out.c3
          simp only at x0 x1 x2
          have hyW : (wr.alloc (.cells #[.string nm, .int .u16 (ty : Nat), .int .u16 (cl : Nat)] 24)).heap[wr.heap.size]? = some (.cells #[.string nm, .int .u16 (ty : Nat), .int .u16 (cl : Nat)] 24 (0, 0)) := heap_new _ _
          clear hL hck hun HX4 HT4
          go_wp2_with fail
          obtain ⟨yb, hyb⟩ : ∃ yb, yb = wr.heap.size := ⟨_, rfl⟩
          rw [← hyb]
          refine wp_abs ?_
          intro w7 hw7
          obtain ⟨fq, hfq⟩ : ∃ fq, fq = foldQ ⟨nm, ty, cl⟩ := ⟨_, rfl⟩
          have hyq : mayQ ⟨un, ty, cl⟩ = true := by rw [HUN.out, mayQ_up]; exact HMQ.out
          have hyf : foldQ ⟨un, ty, cl⟩ = fq := by rw [hfq]; unfold foldQ; simp only; rw [HUN.out, foldS_up]
          have hus : un.size ≤ maxLen := by rw [HUN.out, upS_size]; exact hmax
          have hT7 : Cabs w w7 1 [⟨cb, 6, 3, 5, ⟨0, [⟨fq, saysV 1, 100⟩]⟩⟩] := by rw [hfq, hw7]; exact HTr.out.same ((Chg.refl _ _).alloc _)
          have hX7 : QAt w7 xb ⟨nm, ty, cl⟩ := by rw [hw7]; exact HXr.out.same ((Chg.refl _ _).alloc _)
          have hY7 : QAt w7 yb ⟨un, ty, cl⟩ := by unfold QAt; rw [hw7, hyb]; exact heap_new _ _
          have hc7 : Chg [] wr w7 := by rw [hw7]; exact (Chg.refl _ _).alloc _
          have HT7 := Lib.hid hT7
          have HX7 := Lib.hid hX7
          have HY7 := Lib.hid hY7
          have S7 := Lib.hid (hY7.c33 hX7)
          have HYB : Hid (w.heap.size ≤ yb) := Lib.hid (by rw [hyb]; exact HTr.out.isChg.size)
          have HNE : Hid (xb ≠ yb) := Lib.hid (by have := lt_of_block HXr.out; omega)
          have HFQ := Lib.hid hfq
          have HYQ := Lib.hid hyq
          have HYF := Lib.hid hyf
          have G1 : Hid (gotC ⟨0, [⟨fq, saysV 1, 100⟩]⟩ ⟨un, ty, cl⟩ 1 = some ⟨fq, saysV 1, 100⟩) := Lib.hid (by rw [got_one (by omega) (by omega) (by omega) hyq, if_pos hyf])
          have G2 : Hid ((99 : Int) = 100 - (advC ⟨0, [⟨fq, saysV 1, 100⟩]⟩ 1).now) := Lib.hid (by rw [adv_one (by omega) (by omega) (by omega)]; rfl)
          have hok2 : Hid ((0 : Int) = if okK ⟨un, ty, cl⟩ 50 = true then 0 else 1) := Lib.hid (by
            have : okK ⟨un, ty, cl⟩ 50 = true := by unfold okK; rw [hyq]; rfl
            rw [if_pos this])
          have K2 : Hid (findC ⟨0, [⟨fq, saysV 1, 100⟩]⟩ ⟨un, ty, cl⟩ 1 = ⟨1, [⟨fq, saysV 1, 100⟩]⟩) := Lib.hid (find_one (by omega) (by omega) (by omega) hyq hyf)
          have K3 : Hid (keepC 6 ⟨1, [⟨fq, saysV 1, 100⟩]⟩ ⟨un, ty, cl⟩ (saysV 2) 50 1 = ⟨1, [⟨fq, saysV 2, 51⟩]⟩) := Lib.hid (by rw [keep_one (by omega) (by omega) (by omega) hyq hyf (by omega)]; rfl)
          have G4 : Hid (gotC ⟨1, [⟨fq, saysV 2, 51⟩]⟩ ⟨nm, ty, cl⟩ 1 = some ⟨fq, saysV 2, 51⟩) := Lib.hid (by rw [got_one (by omega) (by omega) (by omega) HMQ.out, if_pos hfq.symm])
          have G5 : Hid ((50 : Int) = 51 - (advC ⟨1, [⟨fq, saysV 2, 51⟩]⟩ 1).now) := Lib.hid (by rw [adv_one (by omega) (by omega) (by omega)]; rfl)
          have K4 : Hid (findC ⟨1, [⟨fq, saysV 2, 51⟩]⟩ ⟨nm, ty, cl⟩ 1 = ⟨1, [⟨fq, saysV 2, 51⟩]⟩) := Lib.hid (find_one (by omega) (by omega) (by omega) HMQ.out hfq.symm)
          clear hT7 hX7 hY7 hyb hfq hyq hyf hw7 hyW hback x0 x1 x2 HTr HXr hc7
          go_region_held3 (fun W => W.cell? ⟨yb, 0, none⟩ = some (.string un) ∧ W.cell? ⟨yb, 1, none⟩ = some (.int .u16 (ty : Nat)) ∧ W.cell? ⟨yb, 2, none⟩ = some (.int .u16 (cl : Nat)) ∧ W.cell? ⟨xb, 0, none⟩ = some (.string nm) ∧ W.cell? ⟨xb, 1, none⟩ = some (.int .u16 (ty : Nat)) ∧ W.cell? ⟨xb, 2, none⟩ = some (.int .u16 (cl : Nat))) (first | (with_reducible exact S12.out) | (with_reducible exact S11.out) | (with_reducible exact S10.out) | (with_reducible exact S9.out) | (with_reducible exact S8.out) | exact S7.out) (first | (go_at_call 13; refine (finds_c (HT7.out.same (Chg.refl [] w7).drew) (i := 0) rfl ⟨un, ty, cl⟩ 1 1 99 ⟨fq, saysV 1, 100⟩ (by omega) hus hq2 hq3 (by omega) G1 (Lib.hid rfl) G2).mono ?_; rintro e9 w8 ⟨rfl, hT8, hcc8⟩; have HX8 := Lib.hid ((HX7.out.same (Chg.refl [] w7).drew).cchg hcc8); have HY8 := Lib.hid ((HY7.out.same (Chg.refl [] w7).drew).cchg hcc8); have S8 := Lib.hid (HY8.out.c33 HX8.out); have HT8 : Hid (Cabs w w8 1 [⟨cb, 6, 3, 5, ⟨1, [⟨fq, saysV 1, 100⟩]⟩⟩]) := Lib.hid (by rw [← K2.out]; exact hT8); clear hT8 hcc8 HT7) | (go_at_call 12; refine (says_any 2 w8 (by omega)).mono ?_; rintro e9 w9 ⟨sb, ob, rfl, hs9, hc9⟩; have HX9 := Lib.hid (HX8.out.same hc9); have HY9 := Lib.hid (HY8.out.same hc9); have S9 := Lib.hid (HY9.out.c33 HX9.out); have HT9 := Lib.hid (HT8.out.same hc9); have HS9 := Lib.hid (hs9.low (Nat.zero_le _)); clear hs9 hc9 HT8) | (go_at_call 11; refine (keep_c HT9.out (i := 0) rfl ⟨un, ty, cl⟩ 2 sb ob 1 1 0 0 (saysV 2) 50 1 (by omega) hus hq2 hq3 (by omega) (.inr HS9.out) 0 hok2).mono ?_; rintro e9 w10 ⟨rfl, hT10, hcc10⟩; have HX10 := Lib.hid (HX9.out.cchg hcc10); have HY10 := Lib.hid (HY9.out.cchg hcc10); have S10 := Lib.hid (HY10.out.c33 HX10.out); have HT10 : Hid (Cabs w w10 2 [⟨cb, 6, 3, 5, ⟨1, [⟨fq, saysV 2, 51⟩]⟩⟩]) := Lib.hid (by rw [← K3.out]; exact hT10); clear hT10 hcc10 HT9) | (go_at_call 14; refine (len_c HT10.out (i := 0) rfl 1 (Lib.hid rfl)).mono ?_; rintro e9 w11 ⟨rfl, hc11⟩; have HX11 := Lib.hid (HX10.out.same hc11); have HY11 := Lib.hid (HY10.out.same hc11); have S11 := Lib.hid (HY11.out.c33 HX11.out); have HT11 := Lib.hid (HT10.out.same hc11); clear hc11 HT10) | (go_at_call 13; refine (finds_c HT11.out (i := 0) rfl ⟨nm, ty, cl⟩ 1 2 50 ⟨fq, saysV 2, 51⟩ (by omega) hmax hq2 hq3 (by omega) G4 (Lib.hid rfl) G5).mono ?_; rintro e9 w12 ⟨rfl, hT12, hcc12⟩; have HX12 := Lib.hid (HX11.out.cchg hcc12); have HY12 := Lib.hid (HY11.out.cchg hcc12); have S12 := Lib.hid (HY12.out.c33 HX12.out); have HT12 : Hid (Cabs w w12 2 [⟨cb, 6, 3, 5, ⟨1, [⟨fq, saysV 2, 51⟩]⟩⟩]) := Lib.hid (by rw [← K4.out]; exact hT12); clear hT12 hcc12 HT11))
          have hY12 := HY12.out
          unfold QAt at hY12
          simp only at hY12
          have y0 : w12.cell? ⟨yb, 0, none⟩ = some (.string un) := cell_of hY12
          have y1 : w12.cell? ⟨yb, 1, none⟩ = some (.int .u16 (ty : Nat)) := cell_of hY12
          have y2 : w12.cell? ⟨yb, 2, none⟩ = some (.int .u16 (cl : Nat)) := cell_of hY12
          have f1 : w12.frozen? ⟨yb, 1, none⟩ = false := free_of hY12
          have f2 : w12.frozen? ⟨yb, 2, none⟩ = false := free_of hY12
          clear S7 S8 S9 S10 S11 S12 HX7 HX8 HX9 HX10 HX11 HY7 HY8 HY9 HY10 HY11 G1 G2 G4 G5 K2 K3 K4 hok2 HS9 hY12
          go_wp2_with fail
          refine calls_abs ?_
          intro w13 hw13
          have hst : Chg [yb] w12 w13 := by rw [hw13]; exact ((Chg.refl _ w12).setCell (.inl (by simp)) _).setCell (.inl (by simp)) _
          have hT13 := HT12.out.other hst (by
            intro k hk
            simp at hk
            rw [hk]
            exact ⟨HYB.out, _, ty_cells HY12.out, by decide, by decide, by decide⟩)
          have hX13 : QAt w13 xb ⟨nm, ty, cl⟩ := hst.keep HX12.out (by simp; exact HNE.out)
          have HT13 := Lib.hid hT13
          have HX13 := Lib.hid hX13
          clear hw13 hst hT13 hX13 HT12 HX12 HY12 y0 y1 y2 f1 f2
          obtain ⟨o, ho⟩ : ∃ o, o = gotC ⟨1, [⟨fq, saysV 2, 51⟩]⟩ ⟨un, kd, cd⟩ 2 := ⟨_, rfl⟩
          obtain ⟨code, hcode⟩ : ∃ code, code = (gotV o).code := ⟨_, rfl⟩
          obtain ⟨left, hleft⟩ : ∃ left, left = leftV o (advC ⟨1, [⟨fq, saysV 2, 51⟩]⟩ 2).now := ⟨_, rfl⟩
          obtain ⟨b1, hb1⟩ : ∃ b1, b1 = decide (kd = ty) := ⟨_, rfl⟩
          obtain ⟨b2, hb2⟩ : ∃ b2, b2 = decide (cd = cl) := ⟨_, rfl⟩
          have hb : (b1 && b2) = o.isSome := by
            have hyk : mayQ ⟨un, kd, cd⟩ = true := by have := HYQ.out; exact this
            rw [ho, got_one (by omega) (by omega) (by omega) hyk]
            have e : foldQ ⟨un, kd, cd⟩ = fq ↔ kd = ty ∧ cd = cl := by
              rw [HFQ.out]
              unfold foldQ
              simp only [Qn.mk.injEq]
              rw [HUN.out, foldS_up]
              simp
            by_cases h1 : kd = ty
            · by_cases h2 : cd = cl
              · rw [if_pos (e.2 ⟨h1, h2⟩), hb1, hb2]; simp [h1, h2]
              · rw [if_neg (fun h => h2 (e.1 h).2), hb2]; simp [h2]
            · rw [if_neg (fun h => h1 (e.1 h).1), hb1]; simp [h1]
          have t1 : ((kd : Int) == (ty : Int)) = b1 := by rw [hb1, Bool.eq_iff_iff, beq_iff_eq, decide_eq_true_eq]; omega
          have t2 : ((cd : Int) == (cl : Int)) = b2 := by rw [hb2, Bool.eq_iff_iff, beq_iff_eq, decide_eq_true_eq]; omega
          have T12 := Lib.hid (And.intro t1 t2)
          have HO := Lib.hid ho
          have HCD := Lib.hid hcode
          have HLF := Lib.hid hleft
          obtain ⟨b, hbb⟩ : ∃ b, b = (b1 && b2) := ⟨_, rfl⟩
          have HB : Hid (b = o.isSome) := Lib.hid (by rw [hbb, hb])
          have HBB := Lib.hid hbb
          clear t1 t2 ho hcode hleft hb hb1 hb2 hbb
          refine (find_c HT13.out (i := 0) rfl ⟨un, kd, cd⟩ 2 o code left b (by omega) hus hkd hcd HO HCD HLF HB).mono ?_
          rintro e14 w14 ⟨va, vn, vc, za, zn, zc, rfl, _, hT14, hcc14⟩
          have hx14 := HX13.out.cchg hcc14
          have k1 := ((Chg.refl [] w14).alloc (.cells #[.int .u8 (code : Nat), .slice va vn vc, .slice za zn zc] 34)).cell hx14.c3.2.1 (by simp)
          have k2 := ((Chg.refl [] w14).alloc (.cells #[.int .u8 (code : Nat), .slice va vn vc, .slice za zn zc] 34)).cell hx14.c3.2.2 (by simp)
          have HEND := Lib.hid ((hT14.isChg.alloc (.cells #[.int .u8 (code : Nat), .slice va vn vc, .slice za zn zc] 34)).below (Nat.le_refl _) (by simp))
          obtain ⟨t1, t2⟩ := T12.out
          have hbb := HBB.out
          clear hT14 hcc14 hx14 HT13 HX13 T12 HB HBB HO
          cases b1 with
          | false =>
            rw [Bool.false_and] at hbb
            subst hbb
            go_wp2
            go_ret
            exact ⟨rfl, HEND.out⟩
          | true =>
            rw [Bool.true_and] at hbb
            subst hbb
            cases b with
            | false =>
              go_wp2
              go_ret
              exact ⟨rfl, HEND.out⟩
            | true =>
              go_wp2
              go_ret
              exact ⟨rfl, HEND.out⟩

end Go.Proofs.Ytgdnfempcjlipaa
