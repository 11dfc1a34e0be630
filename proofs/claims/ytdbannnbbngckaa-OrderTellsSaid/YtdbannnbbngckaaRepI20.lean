/- The book's methods with results under names of their own. -/
import Derived.Test.YtdbannnbbngckaaRepH20
import Derived.Test.YtdbannnbbngckaaInts
namespace Go.Proofs.Ytdbannnbbngckaa
open Go.RowKit

section
variable (b r L R : Nat) (us : List Up) (u n : Int) (w : World)
theorem score_v (v : Nat) (h : Book w b r L R us) (hv : Hid ((getB us u).score = v)) :
    Calls Try.prog 18 #[.pointer (some ⟨b, 0, none⟩), .int .i64 u] w fun e w' => e = .returned (.int .i64 v) ∧ w = w' := by
  rw [← hv.out]; exact score_any b r L R us u w h
theorem rests_v (v : Bool) (h : Book w b r L R us) (hv : Hid ((getB us u).rests = v)) :
    Calls Try.prog 15 #[.pointer (some ⟨b, 0, none⟩), .int .i64 u] w fun e w' => e = .returned (.bool v) ∧ w = w' := by
  rw [← hv.out]; exact rests_any b r L R us u w h
theorem trial_v (v : Bool) (h : Book w b r L R us) (hv : Hid ((getB us u).trial = v)) :
    Calls Try.prog 17 #[.pointer (some ⟨b, 0, none⟩), .int .i64 u] w fun e w' => e = .returned (.bool v) ∧ w = w' := by
  rw [← hv.out]; exact trial_any b r L R us u w h
theorem agree_v (e0 : Nat) (vs : List Up) (h : Book w b r L R us) (he : Hid (errB (hasB us u) = e0)) (hv : Hid (agreeI L us u = vs)) :
    Calls Try.prog 37 #[.pointer (some ⟨b, 0, none⟩), .int .i64 u] w fun e w' => e = .returned (.int .i64 e0) ∧ Book w' b r L R vs ∧ Chg [r] w w' := by
  rw [← he.out, ← hv.out]; exact agree_any b r L R us u w h
theorem silent_v (e0 : Nat) (vs : List Up) (h : Book w b r L R us) (he : Hid (errB (hasB us u) = e0)) (hv : Hid (silentI us u = vs)) :
    Calls Try.prog 40 #[.pointer (some ⟨b, 0, none⟩), .int .i64 u] w fun e w' => e = .returned (.int .i64 e0) ∧ Book w' b r L R vs ∧ Chg [r] w w' := by
  rw [← he.out, ← hv.out]; exact silent_any b r L R us u w h
theorem dissent_v (e0 : Nat) (vs : List Up) (h : Book w b r L R us) (he : Hid (errB (hasB us u && nowB n) = e0)) (hv : Hid (disI L R us u n = vs)) :
    Calls Try.prog 14 #[.pointer (some ⟨b, 0, none⟩), .int .i64 u, .int .i64 n] w fun e w' => e = .returned (.int .i64 e0) ∧ Book w' b r L R vs ∧ Chg [r] w w' := by
  rw [← he.out, ← hv.out]; exact dissent_any b r L R us u n w h
/-- What Back leaves. -/
def BackPost (b r L R : Nat) (l : List Nat) (vs : List Up) (w : World) (e : Ending) (w' : World) : Prop := ∃ a c, e = .returned (.slice a l.length c) ∧ OwnI w.heap.size w' (.slice a l.length c) l ∧ Book w' b r L R vs ∧ Chg [r] w w'
theorem back_v (l : List Nat) (vs : List Up) (h : Book w b r L R us) (he : Hid (backI n us = l)) (hv : Hid (backB L n us = vs)) :
    Calls Try.prog 16 #[.pointer (some ⟨b, 0, none⟩), .int .i64 n] w (BackPost b r L R l vs w) := by
  rw [← he.out, ← hv.out]
  refine (back_any b r L R us n w h).mono ?_
  rintro e w' ⟨v, rfl, hown, hb, hc⟩
  obtain ⟨a, c, rfl⟩ := owns_len hown
  exact ⟨a, c, rfl, hown, hb, hc⟩
def MayPost (l : List Nat) (w : World) (e : Ending) (w' : World) : Prop := ∃ a c, e = .returned (.slice a l.length c) ∧ OwnI w.heap.size w' (.slice a l.length c) l ∧ Chg [] w w'
theorem may_v (l : List Nat) (h : Book w b r L R us) (he : Hid (mayN us = l)) :
    Calls Try.prog 21 #[.pointer (some ⟨b, 0, none⟩)] w (MayPost l w) := by
  rw [← he.out]
  refine (may_any b r L R us w h).mono ?_
  rintro e w' ⟨v, rfl, hown, hc⟩
  obtain ⟨a, c, rfl⟩ := owns_len hown
  exact ⟨a, c, rfl, hown, hc⟩
end

theorem row_of_own {w : World} {base : Nat} {v : Value} {l : List Nat} (h : OwnI base w v l) : Row .i64 w v l := by
  obtain ⟨h0, h⟩ := h
  rcases h with ⟨rfl, hn⟩ | ⟨g, cap, cur, rfl, hg, hb, h1, h2, h3, h4⟩
  · exact .inl ⟨List.length_eq_zero_iff.1 hn, none, 0, rfl⟩
  · refine .inr ⟨g, cap, rfl, fun i hi => ?_⟩
    rw [cell_of hb]
    have e : cur.toList[i]? = (cur.toList.take (l.length * 1))[i]? := by rw [List.getElem?_take_of_lt (by omega)]
    rw [← Array.getElem?_toList, e, h4]
    simp [hi]

theorem row_chg {k : IntKind} {w w' : World} {v : Value} {l : List Nat} (h : Row k w v l) (hc : Chg [] w w') : Row k w' v l := by
  rcases h with ⟨rfl, a, c, rfl⟩ | ⟨r, c, rfl, hx⟩
  · exact .inl ⟨rfl, a, c, rfl⟩
  · exact .inr ⟨r, c, rfl, fun i hi => hc.cell (hx i hi) (by simp)⟩

theorem ints_c (v1 v2 : Value) (l1 l2 : List Nat) (B : Bool) (hB : Hid (B = decide (l1 = l2))) (w : World) (h1 : Row .i64 w v1 l1) (h2 : Row .i64 w v2 l2) (hl : l1.length ≤ 1000000) (hl2 : l2.length ≤ 1000000) :
    Calls Try.prog 11 #[v1, v2] w fun e w' => e = .returned (.bool B) ∧ Chg [] w w' := by
  rw [hB.out]
  refine (ints_any v1 v2 l1 l2 w h1 h2 hl hl2).mono ?_
  rintro e w' ⟨rfl, n, rfl⟩
  exact ⟨rfl, (Chg.refl _ _).drewN _⟩

end Go.Proofs.Ytdbannnbbngckaa
