/- The examples of the tables of questions under way, as every statement asks them (awake); an act done (does); a table behind acts (made). -/
import Derived.Test.YtopkbchjlifflaaFlK
namespace Go.Proofs.Ytopkbchjlifflaa
open Go.RowKit Go.Maps

section
variable (F : List Nat) (tb n m : Nat) (L : List Fl) (w : World)
/-- What an act leaves. -/
def doF (n m : Nat) (L : List Fl) (a : ActT) : List Fl :=
  if a.k = 0 then (beginF L n a.q).1 else if a.k = 1 then (joinF L m a.s a.x).1 else if a.k = 2 then endA L a.s else L
def actA (a : ActT) : Value := .agg #[.int .u8 (a.k : Nat), .string (bytesV a.q.name), .int .u16 (a.q.ty : Nat), .int .u16 (a.q.cl : Nat), .int .i64 a.s, .int .i64 a.x.who, .string (bytesV a.x.data)]
set_option maxRecDepth 100000 in
theorem does_any (a : ActT) (h : FT F w tb n m L) (ha : a.ok) :
    Calls Try.prog 14 #[.pointer (some ⟨tb, 0, none⟩), .agg #[.int .u8 (a.k : Nat), .string (bytesV a.q.name), .int .u16 (a.q.ty : Nat), .int .u16 (a.q.cl : Nat), .int .i64 a.s, .int .i64 a.x.who, .string (bytesV a.x.data)]] w fun e w' => e = .returned (.tuple #[]) ∧ FNext F w w' tb n m (doF n m L a) := by
  obtain ⟨K, q, s, x⟩ := a
  have hq := ha.q
  have hk := ha.k
  simp only at hq hk ⊢
  obtain ⟨nx, hnx⟩ : ∃ nx, nx = bytesV q.name := ⟨_, rfl⟩
  obtain ⟨dx, hdx⟩ : ∃ dx, dx = bytesV x.data := ⟨_, rfl⟩
  obtain ⟨who, hwho⟩ : ∃ who, who = x.who := ⟨_, rfl⟩
  have hc0 : Chg [] w (w.alloc (.cells #[.int .u8 (K : Nat), .string nx, .int .u16 (q.ty : Nat), .int .u16 (q.cl : Nat), .int .i64 s, .int .i64 who, .string dx] 40)) := (Chg.refl _ _).alloc _
  have h1 := h.same hc0
  have hb : Calls Try.prog 12 #[.pointer (some ⟨tb, 0, none⟩), .agg #[.string nx, .int .u16 (q.ty : Nat), .int .u16 (q.cl : Nat)]] (w.alloc (.cells #[.int .u8 (K : Nat), .string nx, .int .u16 (q.ty : Nat), .int .u16 (q.cl : Nat), .int .i64 s, .int .i64 who, .string dx] 40)) fun e w' => (∃ v, e = .returned v) ∧ FNext F w w' tb n m (beginF L n q).1 := by
    rw [hnx] at h1 hc0 ⊢
    refine (begin_any F tb n m L _ q _ _ _ h1 hq (Lib.hid rfl)).mono ?_
    rintro e w' ⟨rfl, hN⟩
    exact ⟨⟨_, rfl⟩, FNext.pre hc0 hN⟩
  have hj : Calls Try.prog 13 #[.pointer (some ⟨tb, 0, none⟩), .int .i64 s, .agg #[.int .i64 who, .string dx]] (w.alloc (.cells #[.int .u8 (K : Nat), .string nx, .int .u16 (q.ty : Nat), .int .u16 (q.cl : Nat), .int .i64 s, .int .i64 who, .string dx] 40)) fun e w' => (∃ v, e = .returned v) ∧ FNext F w w' tb n m (joinF L m s x).1 := by
    rw [hdx, hwho] at h1 hc0 ⊢
    refine (join_any F tb n m L _ s x _ _ h1 (Lib.hid rfl)).mono ?_
    rintro e w' ⟨rfl, hN⟩
    exact ⟨⟨_, rfl⟩, FNext.pre hc0 hN⟩
  have he : Calls Try.prog 15 #[.pointer (some ⟨tb, 0, none⟩), .int .i64 s] (w.alloc (.cells #[.int .u8 (K : Nat), .string nx, .int .u16 (q.ty : Nat), .int .u16 (q.cl : Nat), .int .i64 s, .int .i64 who, .string dx] 40)) fun e w' => (∃ v, e = .returned v) ∧ FNext F w w' tb n m (endA L s) := by
    refine (end_any F tb n m L _ s _ _ _ h1 (Lib.hid rfl) (Lib.hid rfl) (Lib.hid rfl)).mono ?_
    rintro e w' ⟨v, rfl, _, hF, hC⟩
    exact ⟨⟨_, rfl⟩, F, hF, (hc0.mono (by simp)).trans hC, fun y hy => .inl hy⟩
  have h0 : FNext F w (w.alloc (.cells #[.int .u8 (K : Nat), .string nx, .int .u16 (q.ty : Nat), .int .u16 (q.cl : Nat), .int .i64 s, .int .i64 who, .string dx] 40)) tb n m L := FNext.refl h hc0
  rw [← hnx, ← hdx, ← hwho]
  have H0 := Lib.hid h0
  unfold doF
  simp only
  clear h h1 hc0 hnx hdx hwho ha h0 hq
  by_cases k0 : K = 0
  · subst k0
    rw [if_pos rfl]
    go_enter Try.func14, Try.ntmps14
    go_wp2_with fail
    refine hb.mono ?_
    rintro e w1 ⟨⟨v, rfl⟩, hN⟩
    have HN := Lib.hid hN
    clear hN
    go_wp2
    go_end0
    exact ⟨rfl, HN.out⟩
  rw [if_neg k0]
  have t0 : ((K : Int) == 0) = false := by simp; omega
  by_cases k1 : K = 1
  · subst k1
    rw [if_pos rfl]
    go_enter Try.func14, Try.ntmps14
    go_wp2_with fail
    refine hj.mono ?_
    rintro e w1 ⟨⟨v, rfl⟩, hN⟩
    have HN := Lib.hid hN
    clear hN
    go_wp2
    go_end0
    exact ⟨rfl, HN.out⟩
  rw [if_neg k1]
  have t1 : ((K : Int) == 1) = false := by simp; omega
  by_cases k2 : K = 2
  · subst k2
    rw [if_pos rfl]
    go_enter Try.func14, Try.ntmps14
    go_wp2_with fail
    refine he.mono ?_
    rintro e w1 ⟨⟨v, rfl⟩, hN⟩
    have HN := Lib.hid hN
    clear hN
    go_wp2
    go_end0
    exact ⟨rfl, HN.out⟩
  · rw [if_neg k2]
    have t2 : ((K : Int) == 2) = false := by simp; omega
    go_enter Try.func14, Try.ntmps14
    go_wp2
    go_end0
    exact ⟨rfl, H0.out⟩
end
/-- A table of the call's own. -/
def FIn (w wr : World) (tb n m : Nat) (L : List Fl) : Prop := ∃ F, FT F wr tb n m L ∧ (∀ y ∈ F, w.heap.size ≤ y) ∧ Chg [] w wr
theorem FIn.next {w wr w2 : World} {tb n m : Nat} {L L2 : List Fl} (h : FIn w wr tb n m L) (k : ∀ F, FT F wr tb n m L → FNext F wr w2 tb n m L2) : FIn w w2 tb n m L2 := by
  obtain ⟨F, h1, h2, h3⟩ := h
  obtain ⟨F2, k1, k2, k3⟩ := k F h1
  refine ⟨F2, k1, fun y hy => ?_, h3.trans_new k2 (fun y hy => .inr (h2 y hy))⟩
  rcases k3 y hy with e | e
  · exact h2 y e
  · exact Nat.le_trans h3.size e
theorem FIn.same {w wr w2 : World} {tb n m : Nat} {L : List Fl} (h : FIn w wr tb n m L) (hc : Chg [] wr w2) : FIn w w2 tb n m L := h.next fun _ hF => FNext.refl hF hc
/-- How many slots, and how many waiters, numbers stand for. -/
def flN (x : Int) : Nat := (x % 18446744073709551616).toNat % 32 + 1
def wtN (x : Int) : Nat := (x % 18446744073709551616).toNat % 16 + 1
theorem fl_eq (x : Int) : wrap64 (1 + wrap64 ((IntKind.u64.wrap x).tmod 32)) = (flN x : Int) := by
  have e : IntKind.u64.wrap x = x % 18446744073709551616 := by rw [IntKind.wrap_u64]
  have h0 : 0 ≤ x % 18446744073709551616 := Int.emod_nonneg _ (by omega)
  rw [e, Int.tmod_eq_emod_of_nonneg h0]
  unfold flN
  have h1 : wrap64 (x % 18446744073709551616 % 32) = x % 18446744073709551616 % 32 := IntWalk.wrap64_in _ (by omega)
  rw [h1, IntWalk.wrap64_in _ (by omega)]
  omega
theorem wt_eq (x : Int) : wrap64 (1 + wrap64 ((IntKind.u64.wrap x).tmod 16)) = (wtN x : Int) := by
  have e : IntKind.u64.wrap x = x % 18446744073709551616 := by rw [IntKind.wrap_u64]
  have h0 : 0 ≤ x % 18446744073709551616 := Int.emod_nonneg _ (by omega)
  rw [e, Int.tmod_eq_emod_of_nonneg h0]
  unfold wtN
  have h1 : wrap64 (x % 18446744073709551616 % 16) = x % 18446744073709551616 % 16 := IntWalk.wrap64_in _ (by omega)
  rw [h1, IntWalk.wrap64_in _ (by omega)]
  omega
def runF (n m : Nat) (L : List Fl) (acts : List ActT) : List Fl := acts.foldl (doF n m) L
theorem runF_snoc (n m : Nat) (L : List Fl) (acts : List ActT) (a : ActT) : runF n m L (acts ++ [a]) = doF n m (runF n m L acts) a := by simp [runF, List.foldl_append]
set_option maxHeartbeats 1000000 in
theorem made_any (x y : Int) (a : Option Addr) (cap : Nat) (acts : List ActT) (n m : Nat) (L : List Fl) (w : World) (hA : IsActs w a acts) (hn : Hid (n = flN x)) (hm : Hid (m = wtN y)) (hL : Hid (L = runF n m [] acts)) :
    Calls Try.prog 11 #[.int .i64 x, .int .i64 y, .slice a acts.length cap] w fun e w' => ∃ tb, e = .returned (.tuple #[.pointer (some ⟨tb, 0, none⟩), .int .i64 (n : Nat), .int .i64 (m : Nat)]) ∧ FIn w w' tb n m L := by
  have hmax := hA.1
  unfold maxLen at hmax
  have HA := Lib.hid hA.2
  have hn1 : 1 ≤ n := by rw [hn.out]; unfold flN; omega
  have hn32 : n ≤ 32 := by rw [hn.out]; unfold flN; omega
  have hm1 : 1 ≤ m := by rw [hm.out]; unfold wtN; omega
  have hm16 : m ≤ 16 := by rw [hm.out]; unfold wtN; omega
  clear hA
  go_enter Try.func11, Try.ntmps11
  go_wp2_with fail
  rw [fl_eq, wt_eq, ← hn.out, ← hm.out]
  refine (new_in n m w hn1 hn32 hm1 hm16).mono ?_
  rintro e w1 ⟨tb, F, rfl, hF, hlo, hc1⟩
  have hI : FIn w w1 tb n m [] := ⟨F, hF, hlo, hc1⟩
  clear hF hlo hc1
  go_wp2_with fail
  go_loopw [11] (fun i wr => ∃ j : Nat, j ≤ acts.length ∧ i = .int .i64 (j : Nat) ∧ FIn w wr tb n m (runF n m [] (acts.take j))) (fun i _ => acts.length - (intOf i).toNat)
  case atStart => exact ⟨0, Nat.zero_le _, rfl, hI⟩
  case round =>
    clear hI
    obtain ⟨j, hj, rfl, hI⟩ := hrel
    by_cases hlt : j < acts.length
    · obtain ⟨g, o, ha, hg, hc, hok⟩ := HA.out j hlt
      obtain ⟨A, hA⟩ : ∃ A, A = acts[j] := ⟨_, rfl⟩
      rw [← hA] at hc hok
      have htk : acts.take (j + 1) = acts.take j ++ [A] := by rw [List.take_succ_eq_append_getElem hlt, ← hA]
      have hnew : runF n m [] (acts.take (j + 1)) = doF n m (runF n m [] (acts.take j)) A := by rw [htk, runF_snoc]
      subst ha
      obtain ⟨FF, hF, hlo, hC⟩ := hI
      have e0 : wr.cell? ⟨g, o + j * 7, none⟩ = some (.int .u8 (A.k : Nat)) := hC.cell (hc 0 _ rfl) (by simp)
      have e1 : wr.cell? ⟨g, o + j * 7 + 1, none⟩ = some (.string (bytesV A.q.name)) := hC.cell (hc 1 _ rfl) (by simp)
      have e2 : wr.cell? ⟨g, o + j * 7 + 2, none⟩ = some (.int .u16 (A.q.ty : Nat)) := hC.cell (hc 2 _ rfl) (by simp)
      have e3 : wr.cell? ⟨g, o + j * 7 + 3, none⟩ = some (.int .u16 (A.q.cl : Nat)) := hC.cell (hc 3 _ rfl) (by simp)
      have e4 : wr.cell? ⟨g, o + j * 7 + 4, none⟩ = some (.int .i64 A.s) := hC.cell (hc 4 _ rfl) (by simp)
      have e5 : wr.cell? ⟨g, o + j * 7 + 5, none⟩ = some (.int .i64 A.x.who) := hC.cell (hc 5 _ rfl) (by simp)
      have e6 : wr.cell? ⟨g, o + j * 7 + 6, none⟩ = some (.string (bytesV A.x.data)) := hC.cell (hc 6 _ rfl) (by simp)
      have hstep := fun w2 (k : FNext FF wr w2 tb n m (doF n m (runF n m [] (acts.take j)) A)) => (show FIn w wr tb n m (runF n m [] (acts.take j)) from ⟨FF, hF, hlo, hC⟩)
      have hdo := does_any FF tb n m _ wr A hF hok
      have HLO := Lib.hid hlo
      have HC := Lib.hid hC
      have HNEW := Lib.hid hnew
      clear hc hok hA htk hnew hF hlo hC hstep
      go_wp2_with fail
      refine hdo.mono ?_
      rintro e w3 ⟨rfl, F3, hF3, hc3, hs3⟩
      have hI3 : FIn w w3 tb n m (runF n m [] (acts.take (j + 1))) := by
        rw [HNEW.out]
        refine ⟨F3, hF3, fun y hy => ?_, HC.out.trans_new hc3 (fun y hy => .inr (HLO.out y hy))⟩
        rcases hs3 y hy with e | e
        · exact HLO.out y e
        · exact Nat.le_trans HC.out.size e
      have HI3 := Lib.hid hI3
      clear hI3 hF3 hc3 hs3 hdo e0 e1 e2 e3 e4 e5 e6
      go_wp2
      go_roundw
      case rel => exact ⟨j + 1, by omega, by go_num, HI3.out⟩
      case measure => simp [intOf] <;> omega
    · obtain rfl : j = acts.length := by omega
      rw [List.take_of_length_le (Nat.le_refl _), ← hL.out] at hI
      have HI := Lib.hid hI
      clear hI
      go_wp2
      go_ret3
      exact ⟨tb, rfl, HI.out⟩

end Go.Proofs.Ytopkbchjlifflaa
