/- Both books, the program's and the document's, in one memory. -/
import Derived.Test.YtdbannnbbngckaaRefH
namespace Go.Proofs.Ytdbannnbbngckaa
open Go.RowKit

section
variable (b r L R : Nat) (us : List Up) (u n : Int) (w : World)
theorem ragree_v (e0 : Nat) (vs : List Up) (h : RBook w b r L R us) (he : Hid (errB (hasB us u) = e0)) (hv : Hid (agreeI L us u = vs)) :
    Calls Try.prog 38 #[.pointer (some ⟨b, 0, none⟩), .int .i64 u] w fun e w' => e = .returned (.int .i64 e0) ∧ RBook w' b r L R vs ∧ Chg [r] w w' := by
  rw [← he.out, ← hv.out]; exact ragree_any b r L R us u w h
theorem rsilent_v (e0 : Nat) (vs : List Up) (h : RBook w b r L R us) (he : Hid (errB (hasB us u) = e0)) (hv : Hid (silentI us u = vs)) :
    Calls Try.prog 41 #[.pointer (some ⟨b, 0, none⟩), .int .i64 u] w fun e w' => e = .returned (.int .i64 e0) ∧ RBook w' b r L R vs ∧ Chg [r] w w' := by
  rw [← he.out, ← hv.out]; exact rsilent_any b r L R us u w h
theorem rdissent_v (e0 : Nat) (vs : List Up) (h : RBook w b r L R us) (hodd : us.length % 2 = 1) (he : Hid (errB (hasB us u && nowB n) = e0)) (hv : Hid (disI L R us u n = vs)) :
    Calls Try.prog 39 #[.pointer (some ⟨b, 0, none⟩), .int .i64 u, .int .i64 n] w fun e w' => e = .returned (.int .i64 e0) ∧ RBook w' b r L R vs ∧ Chg [r] w w' := by
  rw [← he.out, ← hv.out]; exact rdissent_any b r L R us u n w h hodd
theorem rback_v (l : List Nat) (vs : List Up) (h : RBook w b r L R us) (he : Hid (backI n us = l)) (hv : Hid (backB L n us = vs)) :
    Calls Try.prog 42 #[.pointer (some ⟨b, 0, none⟩), .int .i64 n] w (RBackPost b r L R l vs w) := by
  rw [← hv.out]; exact rback_any b r L R us n w h l he
end

/-- Where the two books lie. -/
structure Lie (w0 b r q s : Nat) : Prop where
  hr : w0 ≤ r
  hs : w0 ≤ s
  rq : r ≠ q
  rs : r ≠ s
  bs : b ≠ s
/-- How many there are. -/
structure Odd1 (us : List Up) : Prop where
  odd : us.length % 2 = 1
theorem Odd1.pos {us : List Up} (h : Odd1 us) : 0 < us.length := by have := h.odd; omega
theorem Odd1.le {us vs : List Up} (h : Odd1 us) (e : vs.length = us.length) : Odd1 vs := ⟨by rw [e]; exact h.odd⟩
theorem agreeI_len (L : Nat) (us : List Up) (u : Int) : (agreeI L us u).length = us.length := by rw [← doB_0 L 0 us u 0, doB_len]
theorem silentI_len (us : List Up) (u : Int) : (silentI us u).length = us.length := by rw [← doB_2 0 0 us u 0, doB_len]
theorem disI_len (L R : Nat) (us : List Up) (u n : Int) : (disI L R us u n).length = us.length := by rw [← doB_1 L R us u n, doB_len]

/-- Both books, alike. -/
structure Both (w : World) (b r q s L R : Nat) (us : List Up) : Prop where
  l : Book w b r L R us
  x : RBook w q s L R us
theorem Both.chg {w w' : World} {b r q s L R : Nat} {us : List Up} (h : Both w b r q s L R us) (hc : Chg [] w w') : Both w' b r q s L R us :=
  ⟨h.l.chg hc (by simp) (by simp), h.x.chg hc (by simp) (by simp)⟩

theorem Both.to {w w' : World} {S : List Nat} {b r q s L R : Nat} {us : List Up} (h : Both w b r q s L R us) (hc : Chg S w w') (h1 : b ∉ S) (h2 : r ∉ S) (h3 : q ∉ S) (h4 : s ∉ S) : Both w' b r q s L R us :=
  ⟨h.l.chg hc h1 h2, h.x.chg hc h3 h4⟩
theorem Both.step {w1 w2 : World} {b r q s L R : Nat} {vs : List Up} (hx : RBook w2 q s L R vs) (hl : Book w1 b r L R vs) (hc : Chg [s] w1 w2) {n : Nat} (hL : Lie n b r q s) : Both w2 b r q s L R vs :=
  ⟨hl.chg hc (by simpa using hL.bs) (by simpa using hL.rs), hx⟩
theorem Lie.book {w w1 : World} {n b r q s L R : Nat} {us : List Up} (hL : Lie n b r q s) (h : RBook w q s L R us) (hc : Chg [r] w w1) : RBook w1 q s L R us :=
  h.chg hc (by simpa using Ne.symm hL.rq) (by simpa using Ne.symm hL.rs)

end Go.Proofs.Ytdbannnbbngckaa
