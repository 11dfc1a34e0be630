/- awake; two tellings held against each other. -/
import Derived.Test.YtjcciojbljlloaaRepH
import Derived.Test.YtjcciojbljlloaaInts15
namespace Go.Proofs.Ytjcciojbljlloaa
open Go.RowKit

theorem one_fields : Try.prog.underlying 36 = some (.struct (Try.prog.fieldsOf 36)) := by kernel_rfl
theorem one_stood : Try.prog.stoodInHeld 36 = false := by kernel_rfl
theorem up_ext (p q : Up) : p = q ↔ p.score = q.score ∧ p.agree = q.agree ∧ p.dissent = q.dissent ∧ p.silent = q.silent ∧ p.rests = q.rests ∧ p.trial = q.trial ∧ p.til = q.til := by
  cases p; cases q; simp

theorem eq_ups (d : Nat) (p q : Up) (w : World) :
    (Op.equalIn (d + 2) 36 (.agg (upA p)) (.agg (upA q))).run Try.prog w = .ok (decide (p = q)) w := by
  rw [run_equalIn_struct w (d + 1) 36 _ _ one_fields one_stood]
  have hf : (Try.prog.fieldsOf 36).toList = (Try.prog.fieldsOf 36).toList := rfl
  simp [Program.fieldsOf, Try.underlying36, Op.eqFields, part, isAgg, run_underlying Try.underlying3, run_underlying Try.underlying2, run_underlying Try.underlying4, upA, go_sem]
  repeat' split
  all_goals
    congr 1
    symm
    first
      | (apply decide_eq_true; rw [up_ext]; exact ⟨by omega, by omega, by omega, by omega, by assumption, by assumption, by omega⟩)
      | (apply decide_eq_false; rw [up_ext]; rintro ⟨a1, a2, a3, a4, a5, a6, a7⟩; first | omega | contradiction)

section
variable (b r L R : Nat) (us : List Up) (u n : Int) (w : World)
theorem score_v (v : Nat) (h : Book w b r L R us) (hv : Hid ((getB us u).score = v)) :
    Calls Try.prog 18 #[.pointer (some ⟨b, 0, none⟩), .int .i64 u] w fun e w' => e = .returned (.int .i64 v) ∧ w = w' := by
  rw [← hv.out]; exact score_any b r L R us u w h
theorem rests_v (v : Bool) (h : Book w b r L R us) (hv : Hid ((getB us u).rests = v)) :
    Calls Try.prog 14 #[.pointer (some ⟨b, 0, none⟩), .int .i64 u] w fun e w' => e = .returned (.bool v) ∧ w = w' := by
  rw [← hv.out]; exact rests_any b r L R us u w h
theorem trial_v (v : Bool) (h : Book w b r L R us) (hv : Hid ((getB us u).trial = v)) :
    Calls Try.prog 21 #[.pointer (some ⟨b, 0, none⟩), .int .i64 u] w fun e w' => e = .returned (.bool v) ∧ w = w' := by
  rw [← hv.out]; exact trial_any b r L R us u w h
theorem agree_v (e0 : Nat) (vs : List Up) (h : Book w b r L R us) (he : Hid (errB (hasB us u) = e0)) (hv : Hid (agreeI L us u = vs)) :
    Calls Try.prog 25 #[.pointer (some ⟨b, 0, none⟩), .int .i64 u] w fun e w' => e = .returned (.int .i64 e0) ∧ Book w' b r L R vs ∧ Chg [r] w w' := by
  rw [← he.out, ← hv.out]; exact agree_any b r L R us u w h
theorem silent_v (e0 : Nat) (vs : List Up) (h : Book w b r L R us) (he : Hid (errB (hasB us u) = e0)) (hv : Hid (silentI us u = vs)) :
    Calls Try.prog 24 #[.pointer (some ⟨b, 0, none⟩), .int .i64 u] w fun e w' => e = .returned (.int .i64 e0) ∧ Book w' b r L R vs ∧ Chg [r] w w' := by
  rw [← he.out, ← hv.out]; exact silent_any b r L R us u w h
theorem dissent_v (e0 : Nat) (vs : List Up) (h : Book w b r L R us) (he : Hid (errB (hasB us u && nowB n) = e0)) (hv : Hid (disI L R us u n = vs)) :
    Calls Try.prog 19 #[.pointer (some ⟨b, 0, none⟩), .int .i64 u, .int .i64 n] w fun e w' => e = .returned (.int .i64 e0) ∧ Book w' b r L R vs ∧ Chg [r] w w' := by
  rw [← he.out, ← hv.out]; exact dissent_any b r L R us u n w h
/-- What Back leaves. -/
def BackPost (b r L R : Nat) (l : List Nat) (vs : List Up) (w : World) (e : Ending) (w' : World) : Prop := ∃ a c, e = .returned (.slice a l.length c) ∧ OwnI w.heap.size w' (.slice a l.length c) l ∧ Book w' b r L R vs ∧ Chg [r] w w'
theorem back_v (l : List Nat) (vs : List Up) (h : Book w b r L R us) (he : Hid (backI n us = l)) (hv : Hid (backB L n us = vs)) :
    Calls Try.prog 17 #[.pointer (some ⟨b, 0, none⟩), .int .i64 n] w (BackPost b r L R l vs w) := by
  rw [← he.out, ← hv.out]
  refine (back_any b r L R us n w h).mono ?_
  rintro e w' ⟨v, rfl, hown, hb, hc⟩
  obtain ⟨a, c, rfl⟩ := owns_len hown
  exact ⟨a, c, rfl, hown, hb, hc⟩
def MayPost (l : List Nat) (w : World) (e : Ending) (w' : World) : Prop := ∃ a c, e = .returned (.slice a l.length c) ∧ OwnI w.heap.size w' (.slice a l.length c) l ∧ Chg [] w w'
theorem may_v (l : List Nat) (h : Book w b r L R us) (he : Hid (mayN us = l)) :
    Calls Try.prog 13 #[.pointer (some ⟨b, 0, none⟩)] w (MayPost l w) := by
  rw [← he.out]
  refine (may_any b r L R us w h).mono ?_
  rintro e w' ⟨v, rfl, hown, hc⟩
  obtain ⟨a, c, rfl⟩ := owns_len hown
  exact ⟨a, c, rfl, hown, hc⟩
end

theorem row_of_own {w : World} {base : Nat} {v : Value} {l : List Nat} (h : OwnI base w v l) : Row .i64 w v l := by
  obtain ⟨h0, h⟩ := h
  rcases h with ⟨rfl, hn⟩ | ⟨g, cap, cur, rfl, hg, hb, h1, h2, h3, h4⟩
  · exact .inl ⟨List.length_eq_zero_iff.1 hn, none, 0, rfl⟩
  · refine .inr ⟨g, cap, rfl, fun i hi => ?_⟩
    rw [cell_of hb]
    have e : cur.toList[i]? = (cur.toList.take (l.length * 1))[i]? := by rw [List.getElem?_take_of_lt (by omega)]
    rw [← Array.getElem?_toList, e, h4]
    simp [hi]

theorem row_chg {k : IntKind} {w w' : World} {v : Value} {l : List Nat} (h : Row k w v l) (hc : Chg [] w w') : Row k w' v l := by
  rcases h with ⟨rfl, a, c, rfl⟩ | ⟨r, c, rfl, hx⟩
  · exact .inl ⟨rfl, a, c, rfl⟩
  · exact .inr ⟨r, c, rfl, fun i hi => hc.cell (hx i hi) (by simp)⟩

theorem ints_c (v1 v2 : Value) (l1 l2 : List Nat) (B : Bool) (hB : Hid (B = decide (l1 = l2))) (w : World) (h1 : Row .i64 w v1 l1) (h2 : Row .i64 w v2 l2) (hl : l1.length ≤ 1000000) (hl2 : l2.length ≤ 1000000) :
    Calls Try.prog 22 #[v1, v2] w fun e w' => e = .returned (.bool B) ∧ Chg [] w w' := by
  rw [hB.out]
  refine (ints_any v1 v2 l1 l2 w h1 h2 hl hl2).mono ?_
  rintro e w' ⟨rfl, n, rfl⟩
  exact ⟨rfl, (Chg.refl _ _).drewN _⟩

def ex1 : List Up := disI 95 10 (newB 3) 0 4
def ex2 : List Up := disI 95 10 ex1 1 5
def ex3 : List Up := backB 95 13 ex2
def ex4 : List Up := backB 95 14 ex3
def agN (us : List Up) : Nat → List Up
  | 0 => us
  | j + 1 => agreeI 95 (agN us j) 0
theorem agN_has (j : Nat) : hasB (agN ex4 j) 0 = true := by
  have : (agN ex4 j).length = 3 := by
    induction j with
    | zero => decide
    | succ j ih => unfold agN agreeI; split <;> simp [agreeB, ih]
  simp [hasB, this]
def AwakeR (b r : Nat) (w : World) (i : Value) (wr : World) : Prop := ∃ j : Nat, j ≤ 5 ∧ i = .int .i64 j ∧ Book wr b r 95 10 (agN ex4 j) ∧ Chg [] w wr

set_option maxRecDepth 100000 in
set_option maxHeartbeats 4000000 in
theorem awake_any (w : World) : Calls Try.prog 10 #[] w fun e w' => e = .returned (.bool true) ∧ Chg [] w w' := by
  have H1 : Hid (errB (hasB (newB 3) 0 && nowB 4) = 0) := Lib.hid (by decide)
  have H2 : Hid ((getB ex1 0).score = 90) := Lib.hid (by decide)
  have H3 : Hid ((getB ex1 0).rests = true) := Lib.hid (by decide)
  have H4 : Hid (errB (hasB ex1 1 && nowB 5) = 0) := Lib.hid (by decide)
  have H5 : Hid ((getB ex2 1).score = 90) := Lib.hid (by decide)
  have H6 : Hid ((getB ex2 1).rests = false) := Lib.hid (by decide)
  have H7 : Hid (backI 13 ex2 = []) := Lib.hid (by decide)
  have H8 : Hid (backI 14 ex3 = [0]) := Lib.hid (by decide)
  have H9 : Hid ((getB ex4 0).trial = true) := Lib.hid (by decide)
  have Ha : Hid ((getB ex4 0).score = 95) := Lib.hid (by decide)
  have Hb : Hid ((getB (agN ex4 5) 0).score = 100) := Lib.hid (by decide)
  have Hc : Hid ((getB (agN ex4 5) 0).trial = false) := Lib.hid (by decide)
  go_enter Try.func10, Try.ntmps10
  go_wp2_with fail
  refine (new_any 3 95 10 _ (by decide) (by decide) (by decide) (by decide) (by decide)).mono ?_
  rintro e w1 ⟨b, r, rfl, hwb, hwr, h1, hC1⟩
  go_wp2_with fail
  refine (dissent_v b r 95 10 _ 0 4 _ 0 ex1 h1 H1 (Lib.hid rfl)).mono ?_
  rintro e w2 ⟨rfl, h2, hc2⟩
  have hC2 : Chg [] w w2 := hC1.trans_new hc2 (by simpa using hwr)
  clear h1 hC1 hc2
  go_wp2_with fail
  refine (score_v b r 95 10 _ 0 _ 90 h2 H2).mono ?_
  rintro e w3 ⟨rfl, rfl⟩
  go_wp2_with fail
  refine (rests_v b r 95 10 _ 0 _ true h2 H3).mono ?_
  rintro e w3 ⟨rfl, rfl⟩
  go_wp2_with fail
  refine (dissent_v b r 95 10 _ 1 5 _ 0 ex2 h2 H4 (Lib.hid rfl)).mono ?_
  rintro e w3 ⟨rfl, h3, hc3⟩
  have hC3 : Chg [] w w3 := hC2.trans_new hc3 (by simpa using hwr)
  clear h2 hC2 hc3
  go_wp2_with fail
  refine (score_v b r 95 10 _ 1 _ 90 h3 H5).mono ?_
  rintro e w4 ⟨rfl, rfl⟩
  go_wp2_with fail
  refine (rests_v b r 95 10 _ 1 _ false h3 H6).mono ?_
  rintro e w4 ⟨rfl, rfl⟩
  go_wp2_with fail
  refine (back_v b r 95 10 _ 13 _ [] ex3 h3 H7 (Lib.hid rfl)).mono ?_
  rintro e w4 ⟨a4, c4, rfl, own4, h4, hc4⟩
  have hC4 : Chg [] w w4 := hC3.trans_new hc4 (by simpa using hwr)
  clear h3 hC3 hc4 own4
  go_wp2_with fail
  refine (back_v b r 95 10 _ 14 _ [0] ex4 h4 H8 (Lib.hid rfl)).mono ?_
  rintro e w5 ⟨a5, c5, rfl, own5, h5, hc5⟩
  have hC5 : Chg [] w w5 := hC4.trans_new hc5 (by simpa using hwr)
  have OWN5 := Lib.hid own5
  clear h4 hC4 hc5 own5
  go_wp2_with fail
  refine (ints_c _ _ [0] [0] true (Lib.hid rfl) _ (row_chg (row_of_own OWN5.out) ((Chg.refl [] _).alloc _)) (Row.of_heap (heap_new' _ _ _ rfl)) (by decide) (by decide)).mono ?_
  rintro e w6 ⟨rfl, hc6⟩
  have h6 := (h5.chg ((Chg.refl [] _).alloc _) (by simp) (by simp)).chg hc6 (by simp) (by simp)
  have hC6 := (hC5.alloc _).trans hc6
  clear h5 hC5 OWN5 hc6
  go_wp2_with fail
  refine (trial_v b r 95 10 _ 0 _ true h6 H9).mono ?_
  rintro e w7 ⟨rfl, rfl⟩
  go_wp2_with fail
  refine (score_v b r 95 10 _ 0 _ 95 h6 Ha).mono ?_
  rintro e w7 ⟨rfl, rfl⟩
  go_wp2_with fail
  go_loopw [3] (AwakeR b r w) (fun i _ => 5 - (intOf i).toNat)
  case atStart => exact ⟨0, by decide, rfl, h6, hC6⟩
  case round =>
    clear h6 hC6
    obtain ⟨j, hj, rfl, hb, hC⟩ := hrel
    by_cases hlt : j < 5
    · have HE : Hid (errB (hasB (agN ex4 j) 0) = 0) := Lib.hid (by rw [agN_has]; rfl)
      go_wp2_with fail
      refine (agree_v b r 95 10 _ 0 _ 0 (agN ex4 (j + 1)) hb HE (Lib.hid rfl)).mono ?_
      rintro e w7 ⟨rfl, h7, hc7⟩
      have hC7 : Chg [] w w7 := hC.trans_new hc7 (by simpa using hwr)
      go_wp2
      go_roundw
      case rel => exact ⟨j + 1, by omega, by go_num, h7, hC7⟩
      case measure => simp [intOf] <;> omega
    · obtain rfl : j = 5 := by omega
      go_wp2_with fail
      refine (score_v b r 95 10 _ 0 _ 100 hb Hb).mono ?_
      rintro e w7 ⟨rfl, rfl⟩
      go_wp2_with fail
      refine (trial_v b r 95 10 _ 0 _ false hb Hc).mono ?_
      rintro e w7 ⟨rfl, rfl⟩
      go_wp2
      go_ret
      exact ⟨rfl, hC⟩

end Go.Proofs.Ytjcciojbljlloaa
