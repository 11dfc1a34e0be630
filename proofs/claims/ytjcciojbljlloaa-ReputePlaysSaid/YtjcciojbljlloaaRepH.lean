/- The walks of the statements' own functions: does, of, made. -/
import Derived.Test.YtjcciojbljlloaaRepG
import Derived.Test.YtjcciojbljlloaaActs19
namespace Go.Proofs.Ytjcciojbljlloaa
open Go.RowKit

theorem doB_0 (L R : Nat) (us : List Up) (u n : Int) : doB L R us 0 u n = agreeI L us u := rfl
theorem doB_1 (L R : Nat) (us : List Up) (u n : Int) : doB L R us 1 u n = disI L R us u n := rfl
theorem doB_2 (L R : Nat) (us : List Up) (u n : Int) : doB L R us 2 u n = silentI us u := rfl
theorem doB_3 (L R : Nat) (us : List Up) (u n : Int) : doB L R us 3 u n = backB L n us := rfl
theorem doB_x (L R : Nat) (us : List Up) (k : Nat) (u n : Int) (h0 : k ≠ 0) (h1 : k ≠ 1) (h2 : k ≠ 2) (h3 : k ≠ 3) : doB L R us k u n = us := by simp [doB, h0, h1, h2, h3]

set_option maxHeartbeats 1000000 in
theorem does_any (b r L R : Nat) (us : List Up) (k : Nat) (u n : Int) (w : World) (h : Book w b r L R us) :
    Calls Try.prog 12 #[.pointer (some ⟨b, 0, none⟩), .agg #[.int .u8 k, .int .i64 u, .int .i64 n]] w fun e w' => e = .returned (.tuple #[]) ∧ Book w' b r L R (doB L R us k u n) ∧ Chg [r] w w' := by
  by_cases h0 : k = 0
  · subst h0
    rw [doB_0]
    go_enter Try.func12, Try.ntmps12
    go_wp2_with fail
    refine (agree_any b r L R us u _ (h.chg ((Chg.refl [] _).alloc _) (by simp) (by simp))).mono ?_
    rintro e w1 ⟨rfl, h1, hc1⟩
    go_wp2
    go_end0
    exact ⟨rfl, h1, ((Chg.refl _ _).alloc _).trans hc1⟩
  have d0 : ((k : Int) == 0) = false := by simp; omega
  by_cases h1 : k = 1
  · subst h1
    rw [doB_1]
    go_enter Try.func12, Try.ntmps12
    go_wp2_with fail
    refine (dissent_any b r L R us u n _ (h.chg ((Chg.refl [] _).alloc _) (by simp) (by simp))).mono ?_
    rintro e w1 ⟨rfl, h1, hc1⟩
    go_wp2
    go_end0
    exact ⟨rfl, h1, ((Chg.refl _ _).alloc _).trans hc1⟩
  have d1 : ((k : Int) == 1) = false := by simp; omega
  by_cases h2 : k = 2
  · subst h2
    rw [doB_2]
    go_enter Try.func12, Try.ntmps12
    go_wp2_with fail
    refine (silent_any b r L R us u _ (h.chg ((Chg.refl [] _).alloc _) (by simp) (by simp))).mono ?_
    rintro e w1 ⟨rfl, h1, hc1⟩
    go_wp2
    go_end0
    exact ⟨rfl, h1, ((Chg.refl _ _).alloc _).trans hc1⟩
  have d2 : ((k : Int) == 2) = false := by simp; omega
  by_cases h3 : k = 3
  · subst h3
    rw [doB_3]
    go_enter Try.func12, Try.ntmps12
    go_wp2_with fail
    refine (back_any b r L R us n _ (h.chg ((Chg.refl [] _).alloc _) (by simp) (by simp))).mono ?_
    rintro e w1 ⟨v, rfl, hown, h1, hc1⟩
    go_wp2
    go_end0
    exact ⟨rfl, h1, ((Chg.refl _ _).alloc _).trans hc1⟩
  have d3 : ((k : Int) == 3) = false := by simp; omega
  rw [doB_x L R us k u n h0 h1 h2 h3]
  clear h0 h1 h2 h3
  go_enter Try.func12, Try.ntmps12
  go_wp2
  go_end0
  exact ⟨rfl, h.chg ((Chg.refl [] _).alloc _) (by simp) (by simp), (Chg.refl _ _).alloc _⟩

/-- What is told of an upstream: all but when it is back. -/
def tellB (us : List Up) (u : Int) : Up := { getB us u with til := 0 }
def upA (p : Up) : Array Value := #[.int .i64 p.score, .int .i64 p.agree, .int .i64 p.dissent, .int .i64 p.silent, .bool p.rests, .bool p.trial, .int .i64 p.til]
/-- The block holds what is told. -/
def OneHeld (w : World) (q : Nat) (p : Up) : Prop := w.heap[q]? = some (.cells (upA p) 36 (0, 0))

set_option maxRecDepth 100000 in
set_option maxHeartbeats 1000000 in
theorem of_any (b r L R : Nat) (us : List Up) (u : Int) (p : Up) (hp : Hid (p = tellB us u)) (w : World) (h : Book w b r L R us) :
    Calls Try.prog 16 #[.pointer (some ⟨b, 0, none⟩), .int .i64 u] w fun e w' => e = .returned (.agg (upA p)) ∧ Chg [] w w' := by
  have e1 : (getB us u).score = p.score := by rw [hp.out]; rfl
  have e2 : (getB us u).agree = p.agree := by rw [hp.out]; rfl
  have e3 : (getB us u).dissent = p.dissent := by rw [hp.out]; rfl
  have e4 : (getB us u).silent = p.silent := by rw [hp.out]; rfl
  have e5 : (getB us u).rests = p.rests := by rw [hp.out]; rfl
  have e6 : (getB us u).trial = p.trial := by rw [hp.out]; rfl
  have e7 : p.til = 0 := by rw [hp.out]; rfl
  have Q1 := fun W hW => counts_any b r L R us u W hW
  have Q2 := fun W hW => score_any b r L R us u W hW
  have Q3 := fun W hW => rests_any b r L R us u W hW
  have Q4 := fun W hW => trial_any b r L R us u W hW
  rw [e2, e3, e4] at Q1
  rw [e1] at Q2
  rw [e5] at Q3
  rw [e6] at Q4
  have QQ := Lib.hid (And.intro Q1 (And.intro Q2 (And.intro Q3 Q4)))
  unfold upA
  rw [e7]
  clear e1 e2 e3 e4 e5 e6 e7 Q1 Q2 Q3 Q4
  go_enter Try.func16, Try.ntmps16
  go_wp2_with fail
  refine (QQ.out.1 _ (h.chg ((Chg.refl [] _).alloc _) (by simp) (by simp))).mono ?_
  rintro e w1 ⟨rfl, hc1⟩
  have h1 := (h.chg ((Chg.refl [] _).alloc _) (by simp) (by simp)).chg hc1 (by simp) (by simp)
  have z1 : OneHeld w1 w.heap.size noUp := hc1.keep (heap_new _ _) (by simp)
  have hC : Chg [] w w1 := ((Chg.refl _ _).alloc _).trans hc1
  obtain ⟨q, hq⟩ : ∃ q, q = w.heap.size := ⟨_, rfl⟩
  have hwq : w.heap.size ≤ q := by omega
  rw [← hq] at z1 ⊢
  clear hc1 hq
  go_wp2_with fail
  refine (QQ.out.2.1 _ h1).mono ?_
  rintro e w2 ⟨rfl, rfl⟩
  go_wp2_with fail
  refine (QQ.out.2.2.1 _ h1).mono ?_
  rintro e w2 ⟨rfl, rfl⟩
  go_wp2_with fail
  refine (QQ.out.2.2.2 _ h1).mono ?_
  rintro e w2 ⟨rfl, rfl⟩
  have m0 : w1.cell? ⟨q, 0, none⟩ = some (.int .i64 0) := (cell_of z1).trans rfl
  have m1 : w1.cell? ⟨q, 1, none⟩ = some (.int .i64 0) := (cell_of z1).trans rfl
  have m2 : w1.cell? ⟨q, 2, none⟩ = some (.int .i64 0) := (cell_of z1).trans rfl
  have m3 : w1.cell? ⟨q, 3, none⟩ = some (.int .i64 0) := (cell_of z1).trans rfl
  have m4 : w1.cell? ⟨q, 4, none⟩ = some (.bool false) := (cell_of z1).trans rfl
  have m5 : w1.cell? ⟨q, 5, none⟩ = some (.bool false) := (cell_of z1).trans rfl
  have m6 : w1.cell? ⟨q, 6, none⟩ = some (.int .i64 0) := (cell_of z1).trans rfl
  have f0 : w1.frozen? ⟨q, 0, none⟩ = false := free_of z1
  have f1 : w1.frozen? ⟨q, 1, none⟩ = false := free_of z1
  have f2 : w1.frozen? ⟨q, 2, none⟩ = false := free_of z1
  have f3 : w1.frozen? ⟨q, 3, none⟩ = false := free_of z1
  have f4 : w1.frozen? ⟨q, 4, none⟩ = false := free_of z1
  have f5 : w1.frozen? ⟨q, 5, none⟩ = false := free_of z1
  have f6 : w1.frozen? ⟨q, 6, none⟩ = false := free_of z1
  go_wp2
  refine bodyPost_ret (v := .agg #[.int .i64 p.score, .int .i64 p.agree, .int .i64 p.dissent, .int .i64 p.silent, .bool p.rests, .bool p.trial, .int .i64 ((0 : Nat) : Int)]) (by simp [results, Try.results16, go_sem, m0, m1, m2, m3, m4, m5, m6]) rfl ⟨rfl, ?_⟩
  iterate 7 (refine Chg.setCell ?_ (.inr hwq) _)
  exact hC

/-- The book behind acts. -/
def foldB (L R : Nat) (us : List Up) (acts : List ActT) : List Up := acts.foldl (fun us a => doB L R us a.k a.u a.n) us
theorem foldB_snoc (L R : Nat) (us : List Up) (acts : List ActT) (a : ActT) : foldB L R us (acts ++ [a]) = doB L R (foldB L R us acts) a.k a.u a.n := by simp [foldB]
theorem foldB_len (L R : Nat) (us : List Up) (acts : List ActT) : (foldB L R us acts).length = us.length := by
  unfold foldB
  induction acts generalizing us with
  | nil => rfl
  | cons a l ih => rw [List.foldl_cons, ih, doB_len]
theorem foldB_step (L R : Nat) (us : List Up) (acts : List ActT) (j : Nat) (h : j < acts.length) : foldB L R us (acts.take (j + 1)) = doB L R (foldB L R us (acts.take j)) acts[j].k acts[j].u acts[j].n := by
  rw [List.take_succ_eq_append_getElem h, foldB_snoc]

def MadeR (b r L R : Nat) (us : List Up) (acts : List ActT) (w : World) (i : Value) (wr : World) : Prop :=
  ∃ j : Nat, j ≤ acts.length ∧ i = .int .i64 j ∧ Book wr b r L R (foldB L R us (acts.take j)) ∧ Chg [] w wr

/-- What is made of three numbers. -/
structure Sizes (x y z : Int) (n L R : Nat) : Prop where
  n5 : n = 1 ∨ n = 3 ∨ n = 5 ∨ n = 7 ∨ n = 9
  L1 : 1 ≤ L
  L2 : L ≤ 100
  R1 : 1 ≤ R
  R2 : R ≤ 100000
  en : (1 : Int) + 2 * ((x % 18446744073709551616) % 5) = n
  eL : (1 : Int) + ((y % 18446744073709551616) % 100) = L
  eR : (1 : Int) + ((z % 18446744073709551616) % 100000) = R
theorem sizes_any (x y z : Int) : ∃ n L R, Sizes x y z n L R := by
  refine ⟨(1 + 2 * ((x % 18446744073709551616) % 5)).toNat, (1 + ((y % 18446744073709551616) % 100)).toNat, (1 + ((z % 18446744073709551616) % 100000)).toNat, ?_, ?_, ?_, ?_, ?_, ?_, ?_, ?_⟩ <;> omega

/-- What 'made' leaves: the book behind the acts. -/
def MadePost (n L R : Nat) (acts : List ActT) (w : World) (e : Ending) (w' : World) : Prop :=
  ∃ b r, e = .returned (.tuple #[.pointer (some ⟨b, 0, none⟩), .int .i64 n, .int .i64 L, .int .i64 R]) ∧ w.heap.size ≤ b ∧ w.heap.size ≤ r ∧ Book w' b r L R (foldB L R (newB n) acts) ∧ Chg [] w w'

set_option maxRecDepth 100000 in
set_option maxHeartbeats 2000000 in
theorem made_any (x y z : Int) (a : Option Addr) (cap : Nat) (acts : List ActT) (n L R : Nat) (hz : Sizes x y z n L R) (w : World) (h : IsActs w a acts) :
    Calls Try.prog 11 #[.int .i64 x, .int .i64 y, .int .i64 z, .slice a acts.length cap] w (MadePost n L R acts w) := by
  obtain ⟨hmax, hacts⟩ := h
  unfold maxLen at hmax
  have HA := Lib.hid hacts
  obtain ⟨hn5, hL1, hL2, hR1, hR2, en, eL, eR⟩ := hz
  have HN5 := Lib.hid hn5
  obtain ⟨m, hm⟩ : ∃ m, m = (x % 18446744073709551616) % 5 := ⟨_, rfl⟩
  obtain ⟨l, hl⟩ : ∃ l, l = (y % 18446744073709551616) % 100 := ⟨_, rfl⟩
  obtain ⟨ρ, hρ⟩ : ∃ ρ, ρ = (z % 18446744073709551616) % 100000 := ⟨_, rfl⟩
  rw [← hm] at en
  rw [← hl] at eL
  rw [← hρ] at eR
  have m0 : 0 ≤ m := by omega
  have m1 : m ≤ 4 := by omega
  have l0 : 0 ≤ l := by omega
  have l1 : l ≤ 99 := by omega
  have r0 : 0 ≤ ρ := by omega
  have r1 : ρ ≤ 99999 := by omega
  have tm : (IntKind.u64.wrap x).tmod 5 = m := by rw [IntKind.wrap_u64, Int.tmod_eq_emod_of_nonneg (by omega)]; exact hm.symm
  have tl : (IntKind.u64.wrap y).tmod 100 = l := by rw [IntKind.wrap_u64, Int.tmod_eq_emod_of_nonneg (by omega)]; exact hl.symm
  have tr : (IntKind.u64.wrap z).tmod 100000 = ρ := by rw [IntKind.wrap_u64, Int.tmod_eq_emod_of_nonneg (by omega)]; exact hρ.symm
  clear hacts hn5 hm hl hρ
  go_enter Try.func11, Try.ntmps11
  go_wp2_with fail
  refine (new_any n L R _ HN5.out hL1 hL2 hR1 hR2).mono ?_
  rintro e w1 ⟨b, r, rfl, hwb, hwr, h1, hC1⟩
  clear tm tl tr en eL eR m0 m1 l0 l1 r0 r1
  go_wp2_with fail
  go_loopw [14] (MadeR b r L R (newB n) acts w) (fun i _ => acts.length - (intOf i).toNat)
  case atStart => exact ⟨0, Nat.zero_le _, rfl, h1, hC1⟩
  case round =>
    clear h1 hC1
    obtain ⟨j, hj, rfl, hb, hC⟩ := hrel
    by_cases hlt : j < acts.length
    · obtain ⟨q, o, ha, hq, d0, d1, d2, hok⟩ := HA.out j hlt
      have hst := foldB_step L R (newB n) acts j hlt
      obtain ⟨A, hA⟩ : ∃ A, A = acts[j] := ⟨_, rfl⟩
      rw [← hA] at d0 d1 d2 hst
      have HST := Lib.hid hst
      subst ha
      have e0 := hC.cell d0 (by simp)
      have e1 := hC.cell d1 (by simp)
      have e2 := hC.cell d2 (by simp)
      clear hA hst d0 d1 d2
      go_wp2_with fail
      refine (does_any b r L R _ A.k A.u A.n _ hb).mono ?_
      rintro e w2 ⟨rfl, b2, hc2⟩
      rw [← HST.out] at b2
      have hC2 : Chg [] w w2 := hC.trans_new hc2 (by simpa using hwr)
      clear e0 e1 e2
      go_wp2
      go_roundw
      case rel => exact ⟨j + 1, by omega, by go_num, b2, hC2⟩
      case measure => simp [intOf] <;> omega
    · have dl : decide (j < acts.length) = false := by simpa using hlt
      rw [List.take_of_length_le (by omega)] at hb
      go_wp2
      refine bodyPost_ret (v := .tuple #[.pointer (some ⟨b, 0, none⟩), .int .i64 n, .int .i64 L, .int .i64 R]) (by simp [results, Try.results11, go_sem]) rfl ?_
      exact ⟨b, r, rfl, hwb, hwr, hb, hC⟩

end Go.Proofs.Ytjcciojbljlloaa
