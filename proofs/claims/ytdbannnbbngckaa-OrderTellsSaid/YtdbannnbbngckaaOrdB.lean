/- The walk of the library's insertion over entries. -/
import Derived.Test.YtdbannnbbngckaaOrdA
namespace Go.Proofs.Ytdbannnbbngckaa
open Go.RowKit

/-- The way of comparing, as a value. -/
def cmpF : Value := .func (.func 33) #[] #[]

/-- Two entries, cell by cell. -/
def Cells6 (sc : Nat → Nat) (tr : Nat → Bool) (W : World) (g j x y : Nat) : Prop := W.cell? ⟨g, j * 3, none⟩ = some (.int .i64 x) ∧ W.cell? ⟨g, j * 3 + 1, none⟩ = some (.int .i64 (sc x)) ∧ W.cell? ⟨g, j * 3 + 2, none⟩ = some (.bool (tr x)) ∧ W.cell? ⟨g, (j - 1) * 3, none⟩ = some (.int .i64 y) ∧ W.cell? ⟨g, (j - 1) * 3 + 1, none⟩ = some (.int .i64 (sc y)) ∧ W.cell? ⟨g, (j - 1) * 3 + 2, none⟩ = some (.bool (tr y))
theorem Cells6.chg {sc : Nat → Nat} {tr : Nat → Bool} {w w' : World} {g j x y : Nat} (h : Cells6 sc tr w g j x y) (hc : Chg [] w w') : Cells6 sc tr w' g j x y :=
  ⟨hc.cell h.1 (by simp), hc.cell h.2.1 (by simp), hc.cell h.2.2.1 (by simp), hc.cell h.2.2.2.1 (by simp), hc.cell h.2.2.2.2.1 (by simp), hc.cell h.2.2.2.2.2 (by simp)⟩

theorem chg6 {a w : World} {g : Nat} (h : Chg [g] a w) (o0 o1 o2 o3 o4 o5 : Nat) (v0 v1 v2 v3 v4 v5 : Value) :
    Chg [g] a (((((((w.setCell ⟨g, o0, none⟩ v0).setCell ⟨g, o1, none⟩ v1).setCell ⟨g, o2, none⟩ v2).setCell ⟨g, o3, none⟩ v3).setCell ⟨g, o4, none⟩ v4).setCell ⟨g, o5, none⟩ v5).drew) :=
  ((((((h.trans (Chg.set1 _ _ _ _)).trans (Chg.set1 _ _ _ _)).trans (Chg.set1 _ _ _ _)).trans (Chg.set1 _ _ _ _)).trans (Chg.set1 _ _ _ _)).trans (Chg.set1 _ _ _ _)).drew
theorem swapA_pred (l : List Nat) (j : Nat) (h : 0 < j) : swapA l (j - 1) = (l.set j (l.getD (j - 1) 0)).set (j - 1) (l.getD j 0) := by
  unfold swapA
  rw [show j - 1 + 1 = j by omega]
theorem sinkK_pos (key : Nat → Nat) (l : List Nat) (j : Nat) (h : 0 < j) (hk : key (l.getD j 0) < key (l.getD (j - 1) 0)) : sinkK key j l = sinkK key (j - 1) (swapA l (j - 1)) := by
  obtain ⟨m, rfl⟩ : ∃ m, j = m + 1 := ⟨j - 1, by omega⟩
  rw [sinkK]
  exact if_pos hk

def SinkR (sc : Nat → Nat) (tr : Nat → Bool) (g n i : Nat) (l0 : List Nat) (w : World) (v : Value) (wr : World) : Prop :=
  ∃ (j : Nat) (cur : List Nat), j ≤ i ∧ v = .int .i64 j ∧ cur.length = n ∧ EntsAt sc tr wr g cur ∧ sinkK (keyE sc tr) j cur = sinkK (keyE sc tr) i l0 ∧ Chg [g] w wr
def InsR (sc : Nat → Nat) (tr : Nat → Bool) (g : Nat) (l : List Nat) (w : World) (v : Value) (wr : World) : Prop :=
  ∃ i : Nat, 1 ≤ i ∧ i ≤ l.length ∧ v = .int .i64 i ∧ EntsAt sc tr wr g (isortK (keyE sc tr) l (i - 1)) ∧ Chg [g] w wr
theorem isortK_step (key : Nat → Nat) (l : List Nat) (i : Nat) (h : 1 ≤ i) : isortK key l (i + 1 - 1) = sinkK key i (isortK key l (i - 1)) := by
  obtain ⟨k, rfl⟩ : ∃ k, i = k + 1 := ⟨i - 1, by omega⟩
  rfl

set_option maxRecDepth 100000 in
set_option maxHeartbeats 4000000 in
theorem insert_any (sc : Nat → Nat) (tr : Nat → Bool) (hsc : ∀ u, sc u ≤ 100) (g cap : Nat) (l : List Nat) (w : World) (h : EntsAt sc tr w g l) (hpos : 1 ≤ l.length) (hlen : l.length ≤ 1000) :
    Calls Try.prog 57 #[.slice (some ⟨g, 0, none⟩) l.length cap, .int .i64 0, .int .i64 l.length, cmpF] w fun e w' => e = .returned (.tuple #[]) ∧ EntsAt sc tr w' g (ordK (keyE sc tr) l) ∧ Chg [g] w w' := by
  have HSC := Lib.hid hsc
  unfold cmpF
  clear hsc
  go_enter Try.func57, Try.ntmps57
  go_wp2_with fail
  go_loopw [8] (InsR sc tr g l w) (fun i _ => l.length - (intOf i).toNat)
  case atStart => exact ⟨1, Nat.le_refl _, hpos, rfl, h, Chg.refl _ _⟩
  case round =>
    clear h
    obtain ⟨i, hi1, hi, rfl, hE, hC⟩ := hrel
    by_cases hlt : i < l.length
    · obtain ⟨l0, hl0⟩ : ∃ l0, l0 = isortK (keyE sc tr) l (i - 1) := ⟨_, rfl⟩
      have hl0n : l0.length = l.length := by rw [hl0, isortK_length]
      rw [← hl0] at hE
      have HL0 := Lib.hid hl0
      have HL0N := Lib.hid hl0n
      clear hl0 hl0n
      go_wp2_with fail
      obtain ⟨wo, rfl⟩ : ∃ wo : World, wo = wr := ⟨_, rfl⟩
      go_loopw [9] (SinkR sc tr g l.length i l0 w) (fun j _ => (intOf j).toNat)
      case atStart => exact ⟨i, l0, Nat.le_refl _, rfl, HL0N.out, hE, rfl, hC⟩
      case round =>
        clear hE hC
        obtain ⟨j, cur, hj, rfl, hcl, hE, hS, hC⟩ := hrel
        have HS := Lib.hid hS
        have HCL := Lib.hid hcl
        clear hS hcl
        by_cases hj0 : j = 0
        · subst hj0
          go_wp2_with fail
          go_quiet (fail)
          go_wp2
          go_roundw
          case rel =>
            refine ⟨i + 1, by omega, by omega, by go_num, ?_, hC.drewN _⟩
            rw [isortK_step _ _ _ hi1, ← HL0.out, ← HS.out]
            exact hE.chg ((Chg.refl [] _).drewN _) (by simp)
          case measure => simp [intOf] <;> omega
        · have hm1 : j < cur.length := by rw [HCL.out]; omega
          have hm0 : j - 1 < cur.length := by omega
          have o1 := hE.one j hm1
          have o0 := hE.one (j - 1) hm0
          obtain ⟨x, hx⟩ : ∃ x, x = cur[j] := ⟨_, rfl⟩
          obtain ⟨y, hy⟩ : ∃ y, y = cur[j - 1] := ⟨_, rfl⟩
          rw [← hx] at o1
          rw [← hy] at o0
          have hgx : cur.getD j 0 = x := by rw [hx]; simp [hm1]
          have hgy : cur.getD (j - 1) 0 = y := by rw [hy]; simp [hm0]
          have HG := Lib.hid (And.intro hgx hgy)
          have S1 : Hid (Cells6 sc tr wr.drew g j x y) := Lib.hid ⟨o1.c0, o1.c1, o1.c2, o0.c0, o0.c1, o0.c2⟩
          unfold Cells6 at S1
          have hj1 : 1 ≤ j := by omega
          have hjp : 0 < j := by omega
          have hjn : j < l.length := by omega
          have i1 : (1 : Int) ≤ (j : Int) := by omega
          have i2 : (0 : Int) < (j : Int) := by omega
          have i3 : (j : Int) < (l.length : Int) := by omega
          have i4 : (0 : Int) ≤ (j : Int) - 1 := by omega
          have i5 : (j : Int) - 1 < (l.length : Int) := by omega
          have i6 : (j : Int) ≤ (l.length : Int) := by omega
          have i7 : j ≤ l.length := by omega
          have i8 : (0 : Int) ≤ (j : Int) := by omega
          have e1 : IntKind.i64.wrap ((j : Int) - 1) = (j : Int) - 1 := IntWalk.i64_in _ (by omega)
          have e2 : ((j : Int) - 1).toNat = j - 1 := by omega
          clear o1 o0 hx hy hgx hgy hj0
          by_cases hkey : keyE sc tr x < keyE sc tr y
          · have HK : Hid ((if tr x then 1000 else 0) + (100 - sc x) < (if tr y then 1000 else 0) + (100 - sc y)) := Lib.hid hkey
            have HKN := Lib.hid hkey
            clear hkey
            go_wp2_with fail
            go_region_held3 (fun W => W.cell? ⟨g, j * 3, none⟩ = some (.int .i64 x) ∧ W.cell? ⟨g, j * 3 + 1, none⟩ = some (.int .i64 (sc x)) ∧ W.cell? ⟨g, j * 3 + 2, none⟩ = some (.bool (tr x)) ∧ W.cell? ⟨g, (j - 1) * 3, none⟩ = some (.int .i64 y) ∧ W.cell? ⟨g, (j - 1) * 3 + 1, none⟩ = some (.int .i64 (sc y)) ∧ W.cell? ⟨g, (j - 1) * 3 + 2, none⟩ = some (.bool (tr y))) (first | (with_reducible exact S2.out) | (with_reducible exact S1.out)) (first | (go_at_call 33; go_must (refine (ent_less x y (sc x) (sc y) (tr x) (tr y) _ (HSC.out x) (HSC.out y) HK.out).mono ?_; rintro e9 w6 ⟨rfl, hc6⟩; have S2 := Lib.hid (Cells6.chg S1.out hc6); unfold Cells6 at S2)))
            have hE6 := hE.chg hc6.undrew (by simp)
            have hC6 : Chg [g] w w6 := hC.trans (hc6.undrew.mono (by simp))
            obtain ⟨a0, a1, a2, b0, b1, b2⟩ := S2.out
            clear hE hC hc6 S1 S2
            have fx := hE6.fr
            have f0 := fx (j * 3)
            have f1 := fx (j * 3 + 1)
            have f2 := fx (j * 3 + 2)
            have g0 := fx ((j - 1) * 3)
            have g1 := fx ((j - 1) * 3 + 1)
            have g2 := fx ((j - 1) * 3 + 2)
            have n0 : ¬ j * 3 = (j - 1) * 3 := by omega
            have n1 : ¬ j * 3 = (j - 1) * 3 + 1 := by omega
            have n2 : ¬ j * 3 = (j - 1) * 3 + 2 := by omega
            have n3 : ¬ j * 3 + 1 = (j - 1) * 3 := by omega
            have n4 : ¬ j * 3 + 1 = (j - 1) * 3 + 1 := by omega
            have n5 : ¬ j * 3 + 1 = (j - 1) * 3 + 2 := by omega
            have n6 : ¬ j * 3 + 2 = (j - 1) * 3 := by omega
            have n7 : ¬ j * 3 + 2 = (j - 1) * 3 + 1 := by omega
            have n8 : ¬ j * 3 + 2 = (j - 1) * 3 + 2 := by omega
            have n9 : ¬ j = j - 1 := by omega
            clear fx
            have hcl : j < cur.length := by rw [HCL.out]; omega
            have HE8 : Hid (EntsAt sc tr (((((((w6.setCell ⟨g, j * 3, none⟩ (.int .i64 y)).setCell ⟨g, j * 3 + 1, none⟩ (.int .i64 (sc y))).setCell ⟨g, j * 3 + 2, none⟩ (.bool (tr y))).setCell ⟨g, (j - 1) * 3, none⟩ (.int .i64 x)).setCell ⟨g, (j - 1) * 3 + 1, none⟩ (.int .i64 (sc x))).setCell ⟨g, (j - 1) * 3 + 2, none⟩ (.bool (tr x))).drew) g (swapA cur (j - 1))) := by
              refine Lib.hid ?_
              have := (hE6.set3 j y hcl).set3 (j - 1) x (by simp; omega)
              rw [swapA_pred cur j hjp, HG.out.1, HG.out.2]
              exact this.chg ((Chg.refl [] _).drew) (by simp)
            have HC8 := Lib.hid (chg6 hC6 (j * 3) (j * 3 + 1) (j * 3 + 2) ((j - 1) * 3) ((j - 1) * 3 + 1) ((j - 1) * 3 + 2) (.int .i64 y) (.int .i64 (sc y)) (.bool (tr y)) (.int .i64 x) (.int .i64 (sc x)) (.bool (tr x)))
            have HS8 : Hid (sinkK (keyE sc tr) (j - 1) (swapA cur (j - 1)) = sinkK (keyE sc tr) i l0) := by
              refine Lib.hid ?_
              rw [← HS.out, sinkK_pos _ _ _ hjp (by rw [HG.out.1, HG.out.2]; exact HKN.out)]
            clear hcl
            go_wp2_with fail
            go_region
            clear e1 e2
            go_wp2
            go_roundw
            case rel =>
              exact ⟨j - 1, swapA cur (j - 1), by omega, by go_num, by rw [swapA_length]; exact HCL.out, HE8.out, HS8.out, HC8.out⟩
            case measure => simp [intOf] <;> omega
          · have HK : Hid (¬ (if tr x then 1000 else 0) + (100 - sc x) < (if tr y then 1000 else 0) + (100 - sc y)) := Lib.hid hkey
            have HKN := Lib.hid hkey
            clear hkey
            go_wp2_with fail
            go_region_held3 (fun W => W.cell? ⟨g, j * 3, none⟩ = some (.int .i64 x) ∧ W.cell? ⟨g, j * 3 + 1, none⟩ = some (.int .i64 (sc x)) ∧ W.cell? ⟨g, j * 3 + 2, none⟩ = some (.bool (tr x)) ∧ W.cell? ⟨g, (j - 1) * 3, none⟩ = some (.int .i64 y) ∧ W.cell? ⟨g, (j - 1) * 3 + 1, none⟩ = some (.int .i64 (sc y)) ∧ W.cell? ⟨g, (j - 1) * 3 + 2, none⟩ = some (.bool (tr y))) (first | (with_reducible exact S2.out) | (with_reducible exact S1.out)) (first | (go_at_call 33; go_must (refine (ent_more x y (sc x) (sc y) (tr x) (tr y) _ (HSC.out x) (HSC.out y) HK.out).mono ?_; rintro e9 w6 ⟨c6, hcb, rfl, hc6⟩; have S2 := Lib.hid (Cells6.chg S1.out hc6); unfold Cells6 at S2)))
            have hE6 := hE.chg hc6.undrew (by simp)
            have hC6 : Chg [g] w w6 := hC.trans (hc6.undrew.mono (by simp))
            clear hE hC hc6 S1 S2
            have dc : decide ((c6 : Int) < 0) = false := by simp
            clear e1 e2
            go_wp2
            go_roundw
            case rel =>
              refine ⟨i + 1, by omega, by omega, by go_num, ?_, hC6⟩
              have e3 : sinkK (keyE sc tr) j cur = cur := by
                cases j with
                | zero => rfl
                | succ m => rw [sinkK, HG.out.1]; rw [show cur.getD m 0 = y from HG.out.2, if_neg HKN.out]
              rw [isortK_step _ _ _ hi1, ← HL0.out, ← HS.out, e3]
              exact hE6
            case measure => simp [intOf] <;> omega
    · have dk : decide (i < l.length) = false := by simpa using hlt
      have e : ordK (keyE sc tr) l = isortK (keyE sc tr) l (i - 1) := by unfold ordK; congr 1; omega
      have HE := Lib.hid e
      clear e
      go_wp2
      go_end0
      rw [HE.out]
      exact ⟨rfl, hE, hC⟩

end Go.Proofs.Ytdbannnbbngckaa
