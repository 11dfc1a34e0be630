/- The walk of ReputeApart. -/
import Derived.Test.YtjcciojbljlloaaRepTrialW
namespace Go.Proofs.Ytjcciojbljlloaa
open Go.RowKit

theorem Try.elemOne : (Try.prog.info? 36).map (fun i => (i.zero, i.size, i.bytes)) = some (some (.agg #[.int .i64 0, .int .i64 0, .int .i64 0, .int .i64 0, .bool false, .bool false, .int .i64 0]), 7, 48) := by kernel_rfl

/-- What is told of the first k. -/
def wl (us : List Up) (k : Nat) : List Up := (List.range k).map fun (i : Nat) => tellB us (i : Int)
theorem wl_len (us : List Up) (k : Nat) : (wl us k).length = k := by simp [wl]
theorem wl_succ (us : List Up) (k : Nat) : wl us (k + 1) = wl us k ++ [tellB us (k : Int)] := by simp [wl, List.range_succ]
theorem wl_get (us : List Up) (k i : Nat) (h : i < k) (h' : i < (wl us k).length) : (wl us k)[i] = tellB us (i : Int) := by simp [wl]
theorem upV_one (p : Up) : ∀ u ∈ upV p, u.oneCell' = true := by
  intro u hu
  simp only [upV, List.mem_cons, List.not_mem_nil, or_false] at hu
  rcases hu with rfl | rfl | rfl | rfl | rfl | rfl | rfl <;> rfl
theorem new_up (w : World) (T : TypeId) (p : Up) : ∀ j u, (upV p)[j]? = some u → (w.alloc (.cells (upA p) T)).cell? ((⟨w.heap.size, 0, none⟩ : Addr).add j) = some u := by
  intro j u hj
  rw [add_at, Nat.zero_add, cell_of (heap_new w _), ← hj]
  unfold upA upV
  rw [List.getElem?_toArray]
theorem upsV_snoc (us : List Up) (p : Up) : upsV (us ++ [p]) = upsV us ++ upV p := by rw [upsV_append]; simp [upsV]

def WasR (b r c rc L R n base : Nat) (us : List Up) (w : World) (v i : Value) (wr : World) : Prop :=
  ∃ j : Nat, j ≤ n ∧ i = .int .i64 j ∧ base ≤ wr.heap.size ∧ wr.ownsRow base 36 7 v j (upsV (wl us j)) ∧ Book wr b r L R us ∧ Book wr c rc L R us ∧ Chg [] w wr
def ActR (b r c rc L R g n : Nat) (us : List Up) (ws : List Up) (more : List ActT) (w : World) (i : Value) (wr : World) : Prop :=
  ∃ j : Nat, j ≤ more.length ∧ i = .int .i64 j ∧ Book wr b r L R ws ∧ Book wr c rc L R (foldB L R us (more.take j)) ∧ UpsAt 36 wr g (wl us n) ∧ Chg [] w wr
def CmpR (b r c rc L R g n : Nat) (us : List Up) (us1 us2 : List Up) (w : World) (i : Value) (wr : World) : Prop :=
  ∃ j : Nat, j ≤ n ∧ i = .int .i64 j ∧ Book wr b r L R us1 ∧ Book wr c rc L R us2 ∧ UpsAt 36 wr g (wl us n) ∧ Chg [] w wr

set_option maxRecDepth 100000 in
set_option maxHeartbeats 8000000 in
theorem reputeApart_walk (x y z : Int) (a : Option Addr) (cap : Nat) (acts : List ActT) (a2 : Option Addr) (cap2 : Nat) (more : List ActT) (w : World) (_hx : (Lit.int .i64 x).wf = true) (_hy : (Lit.int .i64 y).wf = true) (_hz : (Lit.int .i64 z).wf = true) (h : IsActs w a acts) (h2 : IsActs w a2 more) :
    Calls Try.prog 6 #[.int .i64 x, .int .i64 y, .int .i64 z, .slice a acts.length cap, .slice a2 more.length cap2] w fun e w' => e = .returned (.bool true) ∧ Below w.heap.size w w' := by
  have hmax := h.1
  have hmax2 := h2.1
  unfold maxLen at hmax hmax2
  have HA := Lib.hid h
  have HM := Lib.hid h2.2
  clear h h2
  by_cases hbig : 300 < acts.length
  · have hbI : (300 : Int) < (acts.length : Int) := by omega
    go_enter Try.func6, Try.ntmps6
    go_wp2_with fail
    refine (awake_any _).mono ?_
    rintro e w1 ⟨rfl, hc1⟩
    go_wp2
    go_ret
    exact ⟨rfl, hc1.below (Nat.le_refl _) (by simp)⟩
  have hd : decide (300 < acts.length) = false := by simpa using hbig
  have hdI : decide ((300 : Int) < (acts.length : Int)) = false := by simp; omega
  have hleI : (acts.length : Int) ≤ 300 := by omega
  by_cases hbig2 : 300 < more.length
  · have hbI : (300 : Int) < (more.length : Int) := by omega
    go_enter Try.func6, Try.ntmps6
    go_wp2_with fail
    refine (awake_any _).mono ?_
    rintro e w1 ⟨rfl, hc1⟩
    go_wp2
    go_ret
    exact ⟨rfl, hc1.below (Nat.le_refl _) (by simp)⟩
  have hd2 : decide (300 < more.length) = false := by simpa using hbig2
  have hdI2 : decide ((300 : Int) < (more.length : Int)) = false := by simp; omega
  have hleI2 : (more.length : Int) ≤ 300 := by omega
  obtain ⟨n, L, R, hS⟩ := sizes_any x y z
  have HS := Lib.hid hS
  have n9 : n ≤ 9 := by have := hS.n5; omega
  have n1 : 1 ≤ n := by have := hS.n5; omega
  obtain ⟨us, hus⟩ : ∃ us, us = foldB L R (newB n) acts := ⟨_, rfl⟩
  have hul : us.length = n := by rw [hus, foldB_len, newB_len]
  have HU := Lib.hid hus
  have hpos : 0 < us.length := by omega
  obtain ⟨i0, hi0, hz0, hz1, hz2⟩ := info_parts Try.elemOne
  clear hS hbig hbig2 hus hul
  go_enter Try.func6, Try.ntmps6
  go_wp2_with fail
  refine (awake_any _).mono ?_
  rintro e w1 ⟨rfl, hC1⟩
  go_wp2_with fail
  refine (made_any x y z a cap acts n L R HS.out _ (HA.out.chg hC1)).mono ?_
  rintro e w2 ⟨b, r, rfl, hwb, hwr, b2, hc2⟩
  rw [← HU.out] at b2
  have hC2 : Chg [] w w2 := hC1.trans hc2
  have hwr' : w.heap.size ≤ r := by have := hC1.size; omega
  clear hwb hwr hc2 hC1
  go_wp2_with fail
  refine (copy_any b r L R us _ b2 hpos).mono ?_
  rintro e w3 ⟨c, rc, rfl, hwc, hwrc, c3, hc3⟩
  have b3 := b2.chg hc3 (by simp) (by simp)
  have hC3 := hC2.trans hc3
  have hbrc : b ≠ rc := by have := b2.lt; omega
  have hrrc : r ≠ rc := by have := b2.ltr; omega
  have hcr : c ≠ r := by have := b2.ltr; omega
  have hwrc' : w.heap.size ≤ rc := by have := hC2.size; omega
  obtain ⟨base, hbase⟩ : ∃ base, base = w3.heap.size := ⟨_, rfl⟩
  have hbw : w.heap.size ≤ base := by have := hC3.size; omega
  have hrb : r < base := by have := b3.ltr; omega
  have hrcb : rc < base := by have := c3.ltr; omega
  have hbb : b < base := by have := b3.lt; omega
  have hcb : c < base := by have := c3.lt; omega
  have hb3s : base ≤ w3.heap.size := by omega
  clear hc3 b2 hC2 hwc hwrc
  go_wp2_with fail
  go_loopw [16, 17] (WasR b r c rc L R n base us w) (fun _ i _ => n - (intOf i).toNat)
  case atStart => exact ⟨0, Nat.zero_le _, rfl, hb3s, ⟨rfl, .inl ⟨rfl, rfl⟩⟩, b3, c3, hC3⟩
  case round =>
    clear b3 c3 hC3
    obtain ⟨j, hj, rfl, hsz, hown, b4, c4, hC4⟩ := hrel
    by_cases hjn : j < n
    · obtain ⟨p, hp⟩ : ∃ p, p = tellB us j := ⟨_, rfl⟩
      have HP := Lib.hid hp
      have hws := wl_succ us j
      rw [← hp] at hws
      have HWS := Lib.hid hws
      have HOWN := Lib.hid hown
      obtain ⟨av, cv, hv⟩ := owns_len hown
      clear hp hws hown
      rw [hv] at HOWN ⊢
      clear hv
      go_wp2_with fail
      refine (of_any b r L R us j p HP _ b4).mono ?_
      rintro e w5 ⟨rfl, hc5⟩
      have b5 := b4.chg hc5 (by simp) (by simp)
      have c5 := c4.chg hc5 (by simp) (by simp)
      have hC5 := hC4.trans hc5
      have hsz5 : base ≤ w5.heap.size := Nat.le_trans hsz hc5.size
      have own5 := owns_chg HOWN.out hc5 (by simp)
      have OWN5 := Lib.hid own5
      clear hc5 own5 b4 c4 hC4 HOWN
      unfold upA
      have NU := new_up w5 36 p
      unfold upA at NU
      have HNU := Lib.hid NU
      clear NU
      go_wp2_with (at_builtin; go_must (refine wpList_append_own _ rfl _ _ 39 rfl base 36 i0 _ 7 48 Try.underlying39 hi0 hz0 hz1 hz2 rfl (by decide) _ j _ rfl (OWN5.out.alloc _) ⟨w5.heap.size, 0, none⟩ 1 1 (upV p) rfl rfl HNU.out (upV_one p) (by unfold maxLen; omega) (by omega) (by simp; omega) ?_); go_must (intro v1 w6 hown6 hg6 _; have b6 := book_grown (b5.chg ((Chg.refl [] _).alloc (.cells #[.int .i64 p.score, .int .i64 p.agree, .int .i64 p.dissent, .int .i64 p.silent, .bool p.rests, .bool p.trial, .int .i64 p.til] 36)) (by simp) (by simp)) hg6 (owns_block OWN5.out) hbb hrb; have c6 := book_grown (c5.chg ((Chg.refl [] _).alloc (.cells #[.int .i64 p.score, .int .i64 p.agree, .int .i64 p.dissent, .int .i64 p.silent, .bool p.rests, .bool p.trial, .int .i64 p.til] 36)) (by simp) (by simp)) hg6 (owns_block OWN5.out) hcb hrcb; have hC6 : Chg [] w w6 := (hC5.alloc (.cells #[.int .i64 p.score, .int .i64 p.agree, .int .i64 p.dissent, .int .i64 p.silent, .bool p.rests, .bool p.trial, .int .i64 p.til] 36)).grown hg6 (owns_blockS OWN5.out hbw)))
      go_roundw
      case rel =>
        refine ⟨j + 1, by omega, by go_num, by have := hg6.size; simp at this; omega, ?_, b6, c6, hC6⟩
        rw [HWS.out, upsV_snoc]
        exact hown6
      case measure => simp [intOf] <;> omega
    · obtain rfl : j = n := by omega
      have hlw : (wl us j).length = j := wl_len us j
      obtain ⟨W, hW⟩ : ∃ W, W = wl us j := ⟨_, rfl⟩
      rw [← hW] at hown hlw
      have hown2 : wr.ownsRow base 36 7 u16 W.length (upsV W) := by rw [hlw]; exact hown
      obtain ⟨g, cg, hv, hgb, hgc, hups⟩ := ups_of_own hown2 (by omega)
      rw [hlw] at hv
      rw [hW] at hups
      subst hv
      have hgr : r ≠ g := by omega
      have hgrc : rc ≠ g := by omega
      have hgw : w.heap.size ≤ g := by omega
      clear hown hown2 hlw hgc hW
      have HUPS := Lib.hid hups
      clear hups
      go_wp2_with fail
      go_loopw [18] (ActR b r c rc L R g j us us more w) (fun i _ => more.length - (intOf i).toNat)
      case atStart => exact ⟨0, Nat.zero_le _, rfl, b4, c4, HUPS.out, hC4⟩
      case round =>
        clear b4 c4 HUPS hC4
        obtain ⟨k, hk, rfl, b5, c5, u5, hC5⟩ := hrel
        by_cases hkm : k < more.length
        · obtain ⟨q, o, ha, hq, d0, d1, d2, hok⟩ := HM.out k hkm
          have hst := foldB_step L R us more k hkm
          obtain ⟨A, hA⟩ : ∃ A, A = more[k] := ⟨_, rfl⟩
          rw [← hA] at d0 d1 d2 hst
          have HST := Lib.hid hst
          subst ha
          have e0 := hC5.cell d0 (by simp)
          have e1 := hC5.cell d1 (by simp)
          have e2 := hC5.cell d2 (by simp)
          clear hA hst d0 d1 d2 hok
          go_wp2_with fail
          refine (does_any c rc L R _ A.k A.u A.n _ c5).mono ?_
          rintro e w6 ⟨rfl, c6, hc6⟩
          rw [← HST.out] at c6
          have b6 := b5.chg hc6 (by simpa using hbrc) (by simpa using hrrc)
          have u6 := u5.chg hc6 (by simpa using Ne.symm hgrc)
          have hC6 : Chg [] w w6 := hC5.trans_new hc6 (by simpa using hwrc')
          clear e0 e1 e2
          go_wp2
          go_roundw
          case rel => exact ⟨k + 1, by omega, by go_num, b6, c6, u6, hC6⟩
          case measure => simp [intOf] <;> omega
        · have dk : decide (k < more.length) = false := by simpa using hkm
          rw [List.take_of_length_le (by omega)] at c5
          obtain ⟨vs, hvs⟩ : ∃ vs, vs = foldB L R us more := ⟨_, rfl⟩
          rw [← hvs] at c5
          have HVS := Lib.hid hvs
          clear hvs hkm
          go_wp2_with fail
          go_loopw [19] (CmpR b r c rc L R g j us us vs w) (fun i _ => j - (intOf i).toNat)
          case atStart => exact ⟨0, Nat.zero_le _, rfl, b5, c5, u5, hC5⟩
          case round =>
            clear b5 c5 u5 hC5
            obtain ⟨i, hi, rfl, b5, c5, u5, hC5⟩ := hrel
            by_cases hij : i < j
            · obtain ⟨p, hp⟩ : ∃ p, p = tellB us i := ⟨_, rfl⟩
              have HP := Lib.hid hp
              have hwi : i < (wl us j).length := by rw [wl_len]; exact hij
              obtain ⟨o0, o1, o2, o3, o4, o5, o6⟩ := u5.one i hwi
              rw [wl_get us j i hij hwi, ← hp] at o0 o1 o2 o3 o4 o5 o6
              have heq := fun W => eq_ups 9998 p p W
              unfold upA at heq
              simp only [decide_true] at heq
              have hii : (i : Int) < (j : Int) := by omega
              have S1 : Hid (wr.drew.cell? ⟨g, i * 7, none⟩ = some (.int .i64 p.score) ∧ wr.drew.cell? ⟨g, i * 7 + 1, none⟩ = some (.int .i64 p.agree) ∧ wr.drew.cell? ⟨g, i * 7 + 2, none⟩ = some (.int .i64 p.dissent) ∧ wr.drew.cell? ⟨g, i * 7 + 3, none⟩ = some (.int .i64 p.silent) ∧ wr.drew.cell? ⟨g, i * 7 + 4, none⟩ = some (.bool p.rests) ∧ wr.drew.cell? ⟨g, i * 7 + 5, none⟩ = some (.bool p.trial) ∧ wr.drew.cell? ⟨g, i * 7 + 6, none⟩ = some (.int .i64 p.til)) := Lib.hid ⟨o0, o1, o2, o3, o4, o5, o6⟩
              have b5d : Book wr.drew b r L R us := b5.chg ((Chg.refl [] _).drew) (by simp) (by simp)
              clear hp o0 o1 o2 o3 o4 o5 o6
              go_wp2_with fail
              go_region_held3 (fun W => W.cell? ⟨g, i * 7, none⟩ = some (.int .i64 p.score) ∧ W.cell? ⟨g, i * 7 + 1, none⟩ = some (.int .i64 p.agree) ∧ W.cell? ⟨g, i * 7 + 2, none⟩ = some (.int .i64 p.dissent) ∧ W.cell? ⟨g, i * 7 + 3, none⟩ = some (.int .i64 p.silent) ∧ W.cell? ⟨g, i * 7 + 4, none⟩ = some (.bool p.rests) ∧ W.cell? ⟨g, i * 7 + 5, none⟩ = some (.bool p.trial) ∧ W.cell? ⟨g, i * 7 + 6, none⟩ = some (.int .i64 p.til)) (first | (with_reducible exact S2.out) | (with_reducible exact S1.out)) (first | (go_at_call 16; go_must (refine (of_any b r L R us i p HP _ b5d).mono ?_; rintro e9 w6 ⟨rfl, hc6⟩; unfold upA; have S2 := Lib.hid (And.intro (hc6.cell S1.out.1 (by simp)) (And.intro (hc6.cell S1.out.2.1 (by simp)) (And.intro (hc6.cell S1.out.2.2.1 (by simp)) (And.intro (hc6.cell S1.out.2.2.2.1 (by simp)) (And.intro (hc6.cell S1.out.2.2.2.2.1 (by simp)) (And.intro (hc6.cell S1.out.2.2.2.2.2.1 (by simp)) (hc6.cell S1.out.2.2.2.2.2.2 (by simp)))))))))))
              have hc6' : Chg [] wr w6 := hc6.undrew
              have b6 := b5.chg hc6' (by simp) (by simp)
              have c6 := c5.chg hc6' (by simp) (by simp)
              have u6 := u5.chg hc6' (by simp)
              have hC6 := hC5.trans hc6'
              clear hc6 hc6' b5 c5 u5 hC5 S1 S2 b5d
              go_wp2
              go_roundw
              case rel => exact ⟨i + 1, by omega, by go_num, b6, c6, u6, hC6⟩
              case measure => simp [intOf] <;> omega
            · have dij : decide (i < j) = false := by simpa using hij
              clear hij
              go_wp2_with fail
              go_loopw [20] (ActR c rc b r L R g j us vs more w) (fun i _ => more.length - (intOf i).toNat)
              case atStart => exact ⟨0, Nat.zero_le _, rfl, c5, b5, u5, hC5⟩
              case round =>
                clear b5 c5 u5 hC5
                obtain ⟨k, hk, rfl, c5, b5, u5, hC5⟩ := hrel
                by_cases hkm : k < more.length
                · obtain ⟨q, o, ha, hq, d0, d1, d2, hok⟩ := HM.out k hkm
                  have hst := foldB_step L R us more k hkm
                  obtain ⟨A, hA⟩ : ∃ A, A = more[k] := ⟨_, rfl⟩
                  rw [← hA] at d0 d1 d2 hst
                  have HST := Lib.hid hst
                  subst ha
                  have e0 := hC5.cell d0 (by simp)
                  have e1 := hC5.cell d1 (by simp)
                  have e2 := hC5.cell d2 (by simp)
                  clear hA hst d0 d1 d2 hok
                  go_wp2_with fail
                  refine (does_any b r L R _ A.k A.u A.n _ b5).mono ?_
                  rintro e w6 ⟨rfl, b6, hc6⟩
                  rw [← HST.out] at b6
                  have c6 := c5.chg hc6 (by simpa using hcr) (by simpa using Ne.symm hrrc)
                  have u6 := u5.chg hc6 (by simpa using Ne.symm hgr)
                  have hC6 : Chg [] w w6 := hC5.trans_new hc6 (by simpa using hwr')
                  clear e0 e1 e2
                  go_wp2
                  go_roundw
                  case rel => exact ⟨k + 1, by omega, by go_num, c6, b6, u6, hC6⟩
                  case measure => simp [intOf] <;> omega
                · have dk2 : decide (k < more.length) = false := by simpa using hkm
                  rw [List.take_of_length_le (by omega), ← HVS.out] at b5
                  clear hkm
                  go_wp2_with fail
                  go_loopw [21] (CmpR b r c rc L R g j us vs vs w) (fun i _ => j - (intOf i).toNat)
                  case atStart => exact ⟨0, Nat.zero_le _, rfl, b5, c5, u5, hC5⟩
                  case round =>
                    clear b5 c5 u5 hC5
                    obtain ⟨i, hi, rfl, b5, c5, u5, hC5⟩ := hrel
                    by_cases hij : i < j
                    · obtain ⟨p, hp⟩ : ∃ p, p = tellB vs i := ⟨_, rfl⟩
                      have HP := Lib.hid hp
                      have heq := fun W => eq_ups 9998 p p W
                      unfold upA at heq
                      simp only [decide_true] at heq
                      clear hp
                      go_wp2_with fail
                      refine (of_any b r L R vs i p HP _ b5).mono ?_
                      rintro e w6 ⟨rfl, hc6⟩
                      have b6 := b5.chg hc6 (by simp) (by simp)
                      have c6 := c5.chg hc6 (by simp) (by simp)
                      have u6 := u5.chg hc6 (by simp)
                      have hC6 := hC5.trans hc6
                      clear hc6 b5 c5 u5 hC5
                      go_wp2_with fail
                      refine (of_any c rc L R vs i p HP _ c6).mono ?_
                      rintro e w7 ⟨rfl, hc7⟩
                      have b7 := b6.chg hc7 (by simp) (by simp)
                      have c7 := c6.chg hc7 (by simp) (by simp)
                      have u7 := u6.chg hc7 (by simp)
                      have hC7 := hC6.trans hc7
                      clear hc7 b6 c6 u6 hC6
                      unfold upA
                      go_wp2
                      go_roundw
                      case rel => exact ⟨i + 1, by omega, by go_num, b7, c7, u7, hC7⟩
                      case measure => simp [intOf] <;> omega
                    · have dij2 : decide (i < j) = false := by simpa using hij
                      go_wp2
                      go_ret
                      exact ⟨rfl, hC5.below (Nat.le_refl _) (by simp)⟩

end Go.Proofs.Ytjcciojbljlloaa
