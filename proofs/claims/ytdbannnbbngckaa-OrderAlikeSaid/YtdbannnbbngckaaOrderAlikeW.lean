/- The walk of OrderAlike. -/
import Derived.Test.YtdbannnbbngckaaOrdPl3
import Derived.Test.YtdbannnbbngckaaOrdG
import Derived.Test.YtdbannnbbngckaaEnough20
import Derived.Deep.QuietTactic
import Derived.BigQuiet
namespace Go.Proofs.Ytdbannnbbngckaa
open Go.RowKit

theorem trial_q (b r L R : Nat) (us : List Up) (u : Int) (v : Bool) (hv : Hid ((getB us u).trial = v)) (w : World) (h : Book w b r L R us) :
    Calls Try.prog 17 #[.pointer (some ⟨b, 0, none⟩), .int .i64 u] w fun e w' => e = .returned (.bool v) ∧ w' = w :=
  (trial_v b r L R us u w v h hv).mono fun _ _ hh => ⟨hh.1, hh.2.symm⟩
theorem score_q (b r L R : Nat) (us : List Up) (u : Int) (v : Nat) (hv : Hid ((getB us u).score = v)) (w : World) (h : Book w b r L R us) :
    Calls Try.prog 18 #[.pointer (some ⟨b, 0, none⟩), .int .i64 u] w fun e w' => e = .returned (.int .i64 v) ∧ w' = w :=
  (score_v b r L R us u w v h hv).mono fun _ _ hh => ⟨hh.1, hh.2.symm⟩
theorem Book.drewN {w : World} {b r L R : Nat} {us : List Up} (h : Book w b r L R us) (n : Nat) : Book (w.drewN n) b r L R us := h.chg ((Chg.refl [] _).drewN _) (by simp) (by simp)

set_option maxRecDepth 100000 in
set_option maxHeartbeats 2000000 in
theorem same_any (b r L R pb x y : Nat) (us : List Up) (w : World) (h : Book w b r L R us) (hx : w.cell? ⟨pb, 0, none⟩ = some (.pointer (some ⟨b, 0, none⟩))) (B : Bool) (hB : Hid (B = decide (keyE (scU us) (trU us) x = keyE (scU us) (trU us) y))) :
    Calls Try.prog 23 #[.int .i64 x, .int .i64 y, .pointer (some ⟨pb, 0, none⟩)] w fun e w' => e = .returned (.bool B) ∧ Chg [] w w' := by
  have hsc := scU_le h.ok
  have hk := key_eq (us := us) (hsc x) (hsc y)
  obtain ⟨tx, htx⟩ : ∃ tx, trU us x = tx := ⟨_, rfl⟩
  obtain ⟨ty, hty⟩ : ∃ ty, trU us y = ty := ⟨_, rfl⟩
  obtain ⟨sx, hsx⟩ : ∃ sx, scU us x = sx := ⟨_, rfl⟩
  obtain ⟨sy, hsy⟩ : ∃ sy, scU us y = sy := ⟨_, rfl⟩
  rw [htx, hty, hsx, hsy] at hk
  have hB' : B = (decide (tx = ty) && decide (sx = sy)) := by rw [hB.out, Bool.eq_iff_iff]; simp [hk]
  have HTX : Hid ((getB us (x : Int)).trial = tx) := Lib.hid htx
  have HTY : Hid ((getB us (y : Int)).trial = ty) := Lib.hid hty
  have HSX : Hid ((getB us (x : Int)).score = sx) := Lib.hid hsx
  have HSY : Hid ((getB us (y : Int)).score = sy) := Lib.hid hsy
  clear hsc hk hB htx hty hsx hsy
  by_cases ht : tx = ty
  · subst ht
    by_cases hs : sx = sy
    · subst hs
      have e : B = true := by rw [hB']; simp
      subst e
      clear hB'
      go_enter Try.func23, Try.ntmps23
      go_wp2_with fail
      go_quiet ((first | (go_at_call 17; first | (with_reducible exact Calls.quiet_of_same (trial_q b r L R us (x : Int) _ HTX _ (Book.drewN h _))) | (with_reducible exact Calls.quiet_of_same (trial_q b r L R us (y : Int) _ HTY _ (Book.drewN h _)))) | (go_at_call 18; first | (with_reducible exact Calls.quiet_of_same (score_q b r L R us (x : Int) _ HSX _ (Book.drewN h _))) | (with_reducible exact Calls.quiet_of_same (score_q b r L R us (y : Int) _ HSY _ (Book.drewN h _))))))
      go_wp2
      go_ret
      exact ⟨rfl, (Chg.refl _ _).drewN _⟩
    · have e : B = false := by rw [hB']; simp [hs]
      subst e
      have d1 : ((sx : Int) == (sy : Int)) = false := by simp; omega
      have d2 : (sx == sy) = false := by simpa using hs
      clear hB'
      go_enter Try.func23, Try.ntmps23
      go_wp2_with fail
      go_quiet ((first | (go_at_call 17; first | (with_reducible exact Calls.quiet_of_same (trial_q b r L R us (x : Int) _ HTX _ (Book.drewN h _))) | (with_reducible exact Calls.quiet_of_same (trial_q b r L R us (y : Int) _ HTY _ (Book.drewN h _)))) | (go_at_call 18; first | (with_reducible exact Calls.quiet_of_same (score_q b r L R us (x : Int) _ HSX _ (Book.drewN h _))) | (with_reducible exact Calls.quiet_of_same (score_q b r L R us (y : Int) _ HSY _ (Book.drewN h _))))))
      go_wp2
      go_ret
      exact ⟨rfl, (Chg.refl _ _).drewN _⟩
  · have e : B = false := by rw [hB']; simp [ht]
    subst e
    have d1 : (tx == ty) = false := by simpa using ht
    clear hB'
    cases tx <;> cases ty
    · exact absurd rfl ht
    · go_enter Try.func23, Try.ntmps23
      go_wp2_with fail
      go_quiet ((first | (go_at_call 17; first | (with_reducible exact Calls.quiet_of_same (trial_q b r L R us (x : Int) _ HTX _ (Book.drewN h _))) | (with_reducible exact Calls.quiet_of_same (trial_q b r L R us (y : Int) _ HTY _ (Book.drewN h _)))) | (go_at_call 18; first | (with_reducible exact Calls.quiet_of_same (score_q b r L R us (x : Int) _ HSX _ (Book.drewN h _))) | (with_reducible exact Calls.quiet_of_same (score_q b r L R us (y : Int) _ HSY _ (Book.drewN h _))))))
      go_wp2
      go_ret
      exact ⟨rfl, (Chg.refl _ _).drewN _⟩
    · go_enter Try.func23, Try.ntmps23
      go_wp2_with fail
      go_quiet ((first | (go_at_call 17; first | (with_reducible exact Calls.quiet_of_same (trial_q b r L R us (x : Int) _ HTX _ (Book.drewN h _))) | (with_reducible exact Calls.quiet_of_same (trial_q b r L R us (y : Int) _ HTY _ (Book.drewN h _)))) | (go_at_call 18; first | (with_reducible exact Calls.quiet_of_same (score_q b r L R us (x : Int) _ HSX _ (Book.drewN h _))) | (with_reducible exact Calls.quiet_of_same (score_q b r L R us (y : Int) _ HSY _ (Book.drewN h _))))))
      go_wp2
      go_ret
      exact ⟨rfl, (Chg.refl _ _).drewN _⟩
    · exact absurd rfl ht

def NoPair (key : Nat → Nat) (row : List Nat) (i : Nat) : Prop := ∀ a c (hc : c < row.length) (ha : a < c), a < i → key (row[a]'(by omega)) ≠ key row[c]
theorem noPair_zero (key : Nat → Nat) (row : List Nat) : NoPair key row 0 := fun a c _ _ h => by omega
/-- No two alike among the first i, nor with the one at i up to k. -/
def NoPair2 (key : Nat → Nat) (row : List Nat) (i k : Nat) : Prop := NoPair key row i ∧ ∀ c (hc : c < row.length) (hi : i < c), c < k → key (row[i]'(by omega)) ≠ key row[c]
theorem noPair2_start {key : Nat → Nat} {row : List Nat} {i : Nat} (h : NoPair key row i) : NoPair2 key row i (i + 1) := ⟨h, fun c _ hi hk => by omega⟩
theorem noPair2_step {key : Nat → Nat} {row : List Nat} {i k : Nat} (h : NoPair2 key row i k) (hk : k < row.length) (hi : i < k) (hne : key (row[i]'(by omega)) ≠ key row[k]) : NoPair2 key row i (k + 1) :=
  ⟨h.1, fun c hc hic hck => by
    by_cases e : c = k
    · subst e; exact hne
    · exact h.2 c hc hic (by omega)⟩
theorem noPair2_end {key : Nat → Nat} {row : List Nat} {i k : Nat} (h : NoPair2 key row i k) (hk : row.length ≤ k) : NoPair key row (i + 1) := fun a c hc ha hai => by
  by_cases e : a = i
  · subst e; exact h.2 c hc ha (by omega)
  · exact h.1 a c hc ha (by omega)

/-- A row of the call's own, by its block (any block where there is none). -/
theorem may_of_own' {base : Nat} {w : World} {a : Option Addr} {c : Nat} {ml : List Nat} (h : OwnI base w (.slice a ml.length c) ml) : ∃ rb, (0 < ml.length → a = some ⟨rb, 0, none⟩ ∧ base ≤ rb ∧ rb < w.heap.size) ∧ MayAt w rb ml := by
  by_cases hp : 0 < ml.length
  · obtain ⟨rb, h1, h2, h3, h4⟩ := may_of_own h hp
    exact ⟨rb, fun _ => ⟨h1, h2, h3⟩, h4⟩
  · exact ⟨0, fun hh => absurd hh hp, fun i hi => by omega⟩
theorem row_of_may {w : World} {a : Option Addr} {c rb : Nat} {ml : List Nat} (ha : 0 < ml.length → a = some ⟨rb, 0, none⟩) (h : MayAt w rb ml) : Row .i64 w (.slice a ml.length c) ml := by
  by_cases hp : 0 < ml.length
  · rw [ha hp]; exact .inr ⟨rb, c, rfl, h⟩
  · have : ml = [] := List.length_eq_zero_iff.1 (by omega)
    subst this
    exact .inl ⟨rfl, a, c, rfl⟩
def AtR (w8 : World) (ga : Nat) (ord : List Nat) (i : Value) (wr : World) : Prop :=
  ∃ k : Nat, k ≤ ord.length ∧ i = .int .i64 k ∧ wr.heap[ga]? = some (.cells (rowI .i64 (atL ord k)) 3 (0, 0)) ∧ Chg [] w8 wr
def PairR (w8 : World) (ga : Nat) (key : Nat → Nat) (ord row : List Nat) (u i : Value) (wr : World) : Prop :=
  ∃ (k : Nat) (U : Bool), k ≤ row.length ∧ i = .int .i64 k ∧ u = .bool U ∧ (U = true → NoPair key row k) ∧ wr.heap[ga]? = some (.cells (rowI .i64 (atL ord ord.length)) 3 (0, 0)) ∧ Chg [] w8 wr
def PairR2 (w8 : World) (ga : Nat) (key : Nat → Nat) (ord row : List Nat) (j : Nat) (u i : Value) (wr : World) : Prop :=
  ∃ (k : Nat) (U : Bool), j < k ∧ k ≤ row.length ∧ i = .int .i64 k ∧ u = .bool U ∧ (U = true → NoPair2 key row j k) ∧ wr.heap[ga]? = some (.cells (rowI .i64 (atL ord ord.length)) 3 (0, 0)) ∧ Chg [] w8 wr

set_option maxRecDepth 100000 in
set_option maxHeartbeats 8000000 in
theorem orderAlike_walk (C : CaseT) (sz : Int) (w : World) (h : IsCase w C) (hz : (Lit.int .u64 sz).wf = true) :
    Calls Try.prog 4 #[.agg (caseA C), .int .u64 sz] w fun e w' => e = .returned (.bool true) ∧ Below w.heap.size w w' := by
  obtain ⟨wx, wy, wz, hacts, hseed, hfirst⟩ := h
  obtain ⟨fl, hfl, hfb, hreads, _, _⟩ := D.arg_u64 hfirst
  have HA := Lib.hid hacts
  have HR := Lib.hid hreads
  have HFB := Lib.hid hfb
  have HFL := Lib.hid hfl
  clear hacts hfirst hreads hfb hfl wx wy wz
  obtain ⟨sd, rfl, hsd⟩ := nat_of_u64 hz
  clear hz
  obtain ⟨B, hB⟩ : ∃ B, B = (decide (500 < C.acts.length) || decide (500 < C.fl)) := ⟨_, rfl⟩
  have HB := Lib.hid hB
  clear hB
  have hcA : caseA C = #[.int .i64 C.x, .int .i64 C.y, .int .i64 C.z, .slice C.a C.acts.length C.ac, .int .u64 C.seed, .slice C.f C.fl C.fc] := rfl
  rw [hcA]
  have HCA := Lib.hid hcA
  clear hcA
  cases B with
  | true =>
    go_enter Try.func4, Try.ntmps4
    go_wp2_with fail
    rw [← HCA.out]
    refine (long_any C true HB _).mono ?_
    rintro e w1 ⟨rfl, hc1⟩
    have hC1 : Chg [] w w1 := ((Chg.refl _ _).alloc _).trans hc1
    try rw [HCA.out]
    go_wp2_with fail
    refine (awake_any _).mono ?_
    rintro e w2 ⟨rfl, hc2⟩
    go_wp2
    go_ret
    exact ⟨rfl, (hC1.trans hc2).below (Nat.le_refl _) (by simp)⟩
  | false =>
    have h500 : C.acts.length ≤ 500 ∧ C.fl ≤ 500 := by have := HB.out; simp at this; omega
    by_cases hnr : C.x < 1 ∨ 9 < C.x ∨ C.x % 2 = 0 ∨ C.y < 1 ∨ 100 < C.y ∨ C.z < 1 ∨ 100000 < C.z
    · have HNR := Lib.hid hnr
      clear hnr
      go_enter Try.func4, Try.ntmps4
      go_wp2_with fail
      obtain ⟨p, hp⟩ : ∃ p, p = w.heap.size := ⟨_, rfl⟩
      rw [← hp]
      refine calls_abs ?_
      intro w0 hw0
      have p0 : CaseAt w0 p C := by rw [hw0, hp]; exact heap_new _ _
      have hC0 : Chg [] w w0 := by rw [hw0]; exact (Chg.refl _ _).alloc _
      clear hw0 hp
      rw [← HCA.out]
      refine (long_any C false HB _).mono ?_
      rintro e w1 ⟨rfl, hc1⟩
      have p1 := p0.chg hc1 (by simp)
      have hC1 := hC0.trans hc1
      clear p0 hC0 hc1
      go_wp2_with fail
      refine (awake_any _).mono ?_
      rintro e w2 ⟨rfl, hc2⟩
      have p2 := p1.chg hc2 (by simp)
      have hC2 := hC1.trans hc2
      clear p1 hC1 hc2
      obtain ⟨k0, k1, k2, k3, k4, k5⟩ := p2.cells
      go_wp2_with fail
      rw [← HCA.out]
      refine (book_out C _ HNR.out).mono ?_
      rintro e w3 ⟨rfl, hc3⟩
      go_wp2
      go_ret
      exact ⟨rfl, ((hC2.trans hc3).alloc _).below (Nat.le_refl _) (by simp)⟩
    obtain ⟨n, L, R, hin⟩ : ∃ n L R, CaseIn C n L R :=
      ⟨C.x.toNat, C.y.toNat, C.z.toNat, by omega, by omega, by omega, by omega, by omega, by omega, by omega, by omega⟩
    have HIN := Lib.hid hin
    obtain ⟨us, hus⟩ : ∃ us, foldB L R (newB n) C.acts = us := ⟨_, rfl⟩
    have hul : us.length = n := by rw [← hus, foldB_len, newB_len]
    have hpos : 0 < us.length := by have := hin.n5; omega
    have hul9 : us.length ≤ 9 := by have := hin.n5; omega
    have HU := Lib.hid hus
    clear hnr hin hus hul
    go_enter Try.func4, Try.ntmps4
    go_wp2_with fail
    obtain ⟨p, hp⟩ : ∃ p, p = w.heap.size := ⟨_, rfl⟩
    rw [← hp]
    refine calls_abs ?_
    intro w0 hw0
    have p0 : CaseAt w0 p C := by rw [hw0, hp]; exact heap_new _ _
    have hC0 : Chg [] w w0 := by rw [hw0]; exact (Chg.refl _ _).alloc _
    have hpw : w.heap.size ≤ p := by omega
    clear hw0 hp
    rw [← HCA.out]
    refine (long_any C false HB _).mono ?_
    rintro e w1 ⟨rfl, hc1⟩
    have p1 := p0.chg hc1 (by simp)
    have hC1 := hC0.trans hc1
    clear p0 hC0 hc1
    go_wp2_with fail
    refine (awake_any _).mono ?_
    rintro e w2 ⟨rfl, hc2⟩
    have p2 := p1.chg hc2 (by simp)
    have hC2 := hC1.trans hc2
    clear p1 hC1 hc2
    obtain ⟨k0, k1, k2, k3, k4, k5⟩ := p2.cells
    go_wp2_with fail
    rw [← HCA.out]
    refine (book_in C n L R us HU HIN.out h500.1 _ (HA.out.chg hC2)).mono ?_
    rintro e w3 ⟨b, r, q, s, rfl, hB3, hLie, hwb, hc3⟩
    have p3 := p2.chg hc3 (by simp)
    have hC3 := hC2.trans hc3
    have hwr : w.heap.size ≤ r := by have := hLie.hr; have := hC2.size; omega
    have hws : w.heap.size ≤ s := by have := hLie.hs; have := hC2.size; omega
    have hwb' : w.heap.size ≤ b := by have := hC2.size; omega
    have hpb : p < w2.heap.size := lt_of_block p2
    have hpr : p ≠ r := by have := hLie.hr; omega
    have hps : p ≠ s := by have := hLie.hs; omega
    clear p2 hC2 hc3 hwb k0 k1 k2 k3 k4 k5 hpb
    obtain ⟨k0, k1, k2, k3, k4, k5⟩ := p3.cells
    have hrd3 : D.Reads .u64 w3 (.slice C.f C.fl C.fc) fl := HR.out.chg hC3 (by simp)
    have RD3 := Lib.hid hrd3
    have hfl6 : fl.length ≤ 1000000 := by rw [HFL.out]; omega
    clear hrd3
    have hB3l := hB3.l
    have hmpos : 0 < (mayN us).length := by
      have h1 : Enough us := by rw [← HU.out]; exact enough_fold _ (enough_new n (by have := HIN.out.n5; omega))
      unfold Enough at h1
      omega
    clear hB3
    obtain ⟨ml, hml⟩ : ∃ ml, mayN us = ml := ⟨_, rfl⟩
    rw [hml] at hmpos
    have hml9 : ml.length ≤ 9 := by rw [← hml]; exact Nat.le_trans (idxN_len _ _ _) hul9
    obtain ⟨sh, hsh⟩ : ∃ sh, sh = D.shufN (D.drawN C.seed fl) 0 ml.length := ⟨_, rfl⟩
    obtain ⟨row, hrow⟩ : ∃ row, row = rowN us (D.drawN C.seed fl) 0 := ⟨_, rfl⟩
    obtain ⟨ord, hord⟩ : ∃ ord, ordN us (D.drawN C.seed fl) 0 = ord := ⟨_, rfl⟩
    have hshl : sh.length = ml.length := by rw [hsh, D.shufN_length]
    have hrl : row.length = ml.length := by rw [hrow, rowN_len, hml]
    have hol : ord.length = ml.length := by rw [← hord, ordN_len, hml]
    have HROWG : Hid (∀ i (hi : i < ml.length), ∃ s, sh[i]? = some s ∧ s < ml.length ∧ ml[s]? = row[i]?) := Lib.hid (fun i hi => by
      have h1 : i < sh.length := by omega
      have h2 : sh[i] < ml.length := by
        have := D.shufN_lt (D.drawN C.seed fl) 0 ml.length hmpos (sh[i]) (by rw [← hsh]; exact List.getElem_mem h1)
        exact this
      refine ⟨sh[i], by simp [h1], h2, ?_⟩
      rw [hrow]
      unfold rowN
      rw [hml, ← hsh]
      simp [h1, h2])
    have HMEMO : Hid (∀ i (hi : i < ord.length), ord[i] < 9) := Lib.hid (fun i hi => by
      subst hord
      have := (ordN_mem (List.getElem_mem hi)).1
      omega)
    have HMEMR : Hid (∀ i (hi : i < row.length), row[i] < 9 ∧ row[i] ∈ ord) := Lib.hid (fun i hi => by
      subst hrow hord
      have h1 := List.getElem_mem hi
      refine ⟨?_, (ordN_perm us _ 0).mem_iff.2 ((rowN_perm us _ 0).mem_iff.1 h1)⟩
      have := (mayN_mem ((rowN_perm us _ 0).mem_iff.1 h1)).1
      omega)
    have HNOD : Hid ord.Nodup := Lib.hid (by rw [← hord]; exact ordN_nodup _ _ _)
    have HIDX : Hid (∀ i k (hk : k < row.length) (h : i < k), keyE (scU us) (trU us) (row[i]'(Nat.lt_trans h hk)) = keyE (scU us) (trU us) row[k] → ord.idxOf (row[i]'(Nat.lt_trans h hk)) < ord.idxOf row[k]) := Lib.hid (fun i k hk h he => by subst hrow hord; exact alike_idx us _ 0 hk h he)
    have HAP : Hid (NoPair (keyE (scU us) (trU us)) row row.length → ordN us (D.drawN sd []) 0 = ord) := Lib.hid (fun h => by
      rw [← hord]
      refine (ordN_apart us _ _ 0 0 fun i k hk hi => ?_).symm
      subst hrow
      exact h i k hk hi (by omega))
    have HML := Lib.hid hml
    have HO := Lib.hid hord
    have HSH := Lib.hid hsh
    have HL := Lib.hid (And.intro hshl (And.intro hrl hol))
    obtain ⟨key, hkey⟩ : ∃ key, key = keyE (scU us) (trU us) := ⟨_, rfl⟩
    have HKEY := Lib.hid hkey
    clear hml hord hsh hrow hshl hrl hol hkey
    go_wp2_with fail
    obtain ⟨pb, hpb⟩ : ∃ pb, pb = w3.heap.size := ⟨_, rfl⟩
    rw [← hpb]
    refine calls_abs ?_
    intro w4 hw4
    have hcx : Chg [] w3 w4 := by rw [hw4]; exact (Chg.refl _ _).alloc _
    have x4 : w4.cell? ⟨pb, 0, none⟩ = some (.pointer (some ⟨b, 0, none⟩)) := by rw [hw4, hpb]; exact cell_of (heap_new _ _)
    have b4 := hB3l.chg hcx (by simp) (by simp)
    have p4 := p3.chg hcx (by simp)
    have hrd4 : D.Reads .u64 w4 (.slice C.f C.fl C.fc) fl := RD3.out.chg hcx (by simp)
    have RD4 := Lib.hid hrd4
    have hC4 := hC3.trans hcx
    clear hw4 hcx hB3l p3 RD3 hC3 hrd4 k0 k1 k2 k3 k4 k5 hpb
    refine (may_v b r L R us _ ml b4 HML).mono ?_
    rintro e w5 ⟨a5, c5, rfl, own5, hc5⟩
    obtain ⟨rm, ha5, _, hrm5, mm5⟩ := may_of_own own5 hmpos
    subst ha5
    have x5 := hc5.cell x4 (by simp)
    have b5 := b4.chg hc5 (by simp) (by simp)
    have p5 := p4.chg hc5 (by simp)
    have hrd5 : D.Reads .u64 w5 (.slice C.f C.fl C.fc) fl := RD4.out.chg hc5 (by simp)
    have RD5 := Lib.hid hrd5
    have hC5 := hC4.trans hc5
    have M5 := Lib.hid mm5
    clear x4 b4 p4 RD4 hC4 hc5 own5 hrd5 mm5
    have pc := p5.cells
    have S5 : Hid (w5.drew.cell? ⟨pb, 0, none⟩ = some (.pointer (some ⟨b, 0, none⟩)) ∧ w5.drew.cell? ⟨p, 4, none⟩ = some (.int .u64 C.seed) ∧ w5.drew.cell? ⟨p, 5, none⟩ = some (.slice C.f C.fl C.fc)) := Lib.hid ⟨x5, pc.c4, pc.c5⟩
    have hplt : p < w5.heap.size := lt_of_block p5
    have hpblt : pb < w5.heap.size := World.block_lt_of_cell? _ _ x5
    have hs5 : w.heap.size ≤ w5.heap.size := hC5.size
    clear pc
    go_wp2_with fail
    go_region_held3 (fun W => W.cell? ⟨pb, 0, none⟩ = some (.pointer (some ⟨b, 0, none⟩)) ∧ W.cell? ⟨p, 4, none⟩ = some (.int .u64 C.seed) ∧ W.cell? ⟨p, 5, none⟩ = some (.slice C.f C.fl C.fc)) (first | (with_reducible exact S7.out) | (with_reducible exact S6.out) | (with_reducible exact S5.out)) (first | (go_at_call 10; go_must (refine (D.new_any C.seed _ fl _ hfl6 HFB.out ?_).mono ?_; exact RD5.out; rintro e9 w6 ⟨t, rfl, hwt, t6, hc6⟩; have S6 := Lib.hid (And.intro (hc6.cell S5.out.1 (by simp)) (And.intro (hc6.cell S5.out.2.1 (by simp)) (hc6.cell S5.out.2.2 (by simp)))); have b6 := (b5.chg hc6.undrew (by simp) (by simp)))) | (go_at_call 12; go_must (have hwt2 : w5.heap.size ≤ t := hwt; refine (order_any b r L R t C.seed 0 fl us ord _ b6 t6 (by decide) HO).mono ?_; rintro e9 w7 ⟨a7, c7, rfl, own7, b7, t7, hc7⟩; have S7 := Lib.hid (And.intro (hc7.cell S6.out.1 (by simp; omega)) (And.intro (hc7.cell S6.out.2.1 (by simp; omega)) (hc7.cell S6.out.2.2 (by simp; omega)))))))
    have hwt3 : w5.heap.size ≤ t := hwt
    have hcz : Chg [] w5 w7 := hc6.undrew.trans_new hc7 (by simp; omega)
    have hol := HL.out.2.2
    obtain ⟨ro, ha7, _, hro7, mo7⟩ := may_of_own own7 (by omega)
    subst ha7
    have p7 := p5.chg hcz (by simp)
    have x7 := hcz.cell x5 (by simp)
    have hrd7 : D.Reads .u64 w7 (.slice C.f C.fl C.fc) fl := RD5.out.chg hcz (by simp)
    have RD7 := Lib.hid hrd7
    have M7 := Lib.hid (M5.out.chg hcz (by simp))
    have O7 := Lib.hid mo7
    have hC7 := hC5.trans hcz
    clear S5 S6 S7 b5 b6 t6 t7 hc6 hc7 hcz own7 p5 x5 hrd7 RD5 M5 hC5 hwt hwt2 hwt3 mo7
    have ho1 : ord.length ≤ ml.length := by omega
    have ho2 : ml.length ≤ ord.length := by omega
    rw [hol]
    clear hol
    obtain ⟨k0, k1, k2, k3, k4, k5⟩ := p7.cells
    go_wp2_with fail
    refine (D.new_any C.seed _ fl _ hfl6 HFB.out RD7.out).mono ?_
    rintro e w8 ⟨t', rfl, hwt, t8, hc8⟩
    have b8 := b7.chg hc8 (by simp) (by simp)
    have x8 := hc8.cell x7 (by simp)
    have M8 := Lib.hid (M7.out.chg hc8 (by simp))
    have O8 := Lib.hid (O7.out.chg hc8 (by simp))
    have hC8 := hC7.trans hc8
    have hwt' : w.heap.size ≤ t' := by have := hC7.size; omega
    have hrmt : rm ≠ t' := by have := hC7.size; have : rm < w7.heap.size := World.block_lt_of_cell? _ _ (M7.out 0 hmpos); omega
    have hrot : ro ≠ t' := by omega
    have hpbt : pb ≠ t' := by have : pb < w7.heap.size := World.block_lt_of_cell? _ _ x7; omega
    have hbt := (tape_book t8 b8).1
    have hrt := (tape_book t8 b8).2
    clear p7 RD7 b7 x7 M7 O7 hC7 hc8 k0 k1 k2 k3 k4 k5 hwt
    go_wp2_with fail
    refine (D.shuffle_any t' C.seed fl 0 ml.length _ t8 (by decide) hmpos (by omega)).mono ?_
    rintro e w9 ⟨rfl, s9, t9, hc9⟩
    obtain ⟨sb, hsb⟩ : ∃ sb, sb = w8.heap.size := ⟨_, rfl⟩
    rw [← hsb] at s9 ⊢
    rw [← HSH.out] at s9
    have b9 := b8.chg hc9 (by simpa using hbt) (by simpa using hrt)
    have x9 := hc9.cell x8 (by simpa using hpbt)
    have M9 := Lib.hid (M8.out.chg hc9 (by simpa using hrmt))
    have O9 := Lib.hid (O8.out.chg hc9 (by simpa using hrot))
    have SH9 := Lib.hid s9
    have hC9 : Chg [] w w9 := hC8.trans_new hc9 (by simpa using hwt')
    clear b8 t8 x8 M8 O8 hC8 hc9 s9 t9 hsb
    have hmk : ∀ W : World, (Instr.makeSlice 32 (.int .i64 9) (.int .i64 9)).run Try.prog W = .ok (.slice (some ⟨W.heap.size, 0, none⟩) 9 9) (W.alloc (.cells (rowI .i64 (List.replicate 9 0)) 3)) := fun W => run_make_ints (P := Try.prog) W 32 3 .i64 9 8 Try.underlying32 Try.elemInt (by omega) (by omega)
    go_wp2_with fail
    clear hmk
    obtain ⟨ga, hga⟩ : ∃ ga, ga = w9.heap.size := ⟨_, rfl⟩
    rw [← hga]
    refine wp_abs ?_
    intro w10 hw10
    have hcx : Chg [] w9 w10 := by rw [hw10]; exact (Chg.refl _ _).alloc _
    have A10 : Hid (w10.heap[ga]? = some (.cells (rowI .i64 (atL ord 0)) 3 (0, 0))) := Lib.hid (by rw [hw10, hga, atL_zero]; exact heap_new _ _)
    have hga9 : w9.heap.size ≤ ga := by omega
    clear hw10 hga
    have ho1 : ord.length ≤ ml.length := by rw [HL.out.2.2]; exact Nat.le_refl _
    have ho2 : ml.length ≤ ord.length := by rw [HL.out.2.2]; exact Nat.le_refl _
    go_loopw [13] (AtR w9 ga ord) (fun i _ => ord.length - (intOf i).toNat)
    case atStart => exact ⟨0, Nat.zero_le _, rfl, A10.out, hcx⟩
    case round =>
      clear A10 hcx
      obtain ⟨k, hk, rfl, ha, hC⟩ := hrel
      by_cases hko : k < ord.length
      · obtain ⟨x, hx⟩ : ∃ x, x = ord[k] := ⟨_, rfl⟩
        have hx9 : x < 9 := by rw [hx]; exact HMEMO.out k hko
        have k1 : wr.cell? ⟨ro, k, none⟩ = some (.int .i64 (x : Nat)) := by rw [hx]; exact hC.cell (O9.out k hko) (by simp)
        obtain ⟨y, hy⟩ : ∃ y, (rowI .i64 (atL ord k))[x]? = some y := ⟨_, rowI_get _ _ _ (by rw [atL_len]; exact hx9)⟩
        have k2 : wr.cell? ⟨ga, x, none⟩ = some y := (cell_of ha).trans hy
        have k3 : wr.frozen? ⟨ga, x, none⟩ = false := free_of ha
        have HA2 : Hid ((wr.setCell ⟨ga, x, none⟩ (.int .i64 (k : Nat))).heap[ga]? = some (.cells (rowI .i64 (atL ord (k + 1))) 3 (0, 0))) := Lib.hid (by rw [heap_set ha, rowI_set, ← atL_set HNOD.out hko (HMEMO.out k hko), hx])
        have hxI : (x : Int) < 9 := by omega
        have hkI : (k : Int) < (ml.length : Int) := by omega
        have hx0 : decide ((x : Int) < 0) = false := by simp
        have hx9' : decide ((9 : Int) ≤ (x : Int)) = false := by simp; omega
        have hkm : k < ml.length := by omega
        clear hx hy ha
        go_wp2
        go_roundw
        case rel => exact ⟨k + 1, hko, by go_num, HA2.out, hC.trans_new (Chg.set1 _ _ _ _) (by simp; omega)⟩
        case measure => simp [intOf] <;> omega
      · obtain rfl : k = ord.length := by omega
        have A11 := Lib.hid ha
        have dk : decide (ord.length < ml.length) = false := by simp; omega
        have dkI : decide ((ord.length : Int) < (ml.length : Int)) = false := by simp; omega
        clear ha
        go_wp2_with fail
        clear dk dkI
        go_loopw [11, 14] (PairR w9 ga key ord row) (fun _ i _ => row.length - (intOf i).toNat)
        case atStart => exact ⟨0, true, Nat.zero_le _, rfl, rfl, fun _ => noPair_zero _ _, A11.out, hC⟩
        case round =>
          clear A11 hC
          obtain ⟨i, U, hi, rfl, rfl, hU, ha, hC⟩ := hrel
          have A12 := Lib.hid ha
          have HUU := Lib.hid hU
          have hr1 : row.length ≤ ml.length := by rw [HL.out.2.1]; exact Nat.le_refl _
          have hr2 : ml.length ≤ row.length := by rw [HL.out.2.1]; exact Nat.le_refl _
          clear ha hU
          by_cases him : i < ml.length
          · have hiI : (i : Int) < (ml.length : Int) := by omega
            go_wp2_with fail
            obtain ⟨wo, rfl⟩ : ∃ wo : World, wo = wr := ⟨_, rfl⟩
            go_loopw [11, 15] (PairR2 w9 ga key ord row i) (fun _ k _ => row.length - (intOf k).toNat)
            case atStart => exact ⟨i + 1, U, by omega, by omega, by go_num, rfl, fun h => noPair2_start (HUU.out h), A12.out, hC⟩
            case round =>
              clear A12 HUU hC
              obtain ⟨k, U, hik, hkr, rfl, rfl, hU, ha, hC⟩ := hrel
              have A12 := Lib.hid ha
              have HUU := Lib.hid hU
              clear ha hU
              by_cases hkm : k < ml.length
              · obtain ⟨si, hsi, hsil, hmi⟩ := HROWG.out i him
                obtain ⟨sk, hsk, hskl, hmk⟩ := HROWG.out k hkm
                obtain ⟨x, hx⟩ : ∃ x, x = row[i]'(by omega) := ⟨_, rfl⟩
                obtain ⟨y, hy⟩ : ∃ y, y = row[k]'(by omega) := ⟨_, rfl⟩
                have hmi' : ml[si] = x := by rw [hx]; have := hmi; simp [hsil, show i < row.length by omega] at this; exact this
                have hmk' : ml[sk] = y := by rw [hy]; have := hmk; simp [hskl, show k < row.length by omega] at this; exact this
                have hsh9 := SH9.out
                have c1 : wr.cell? ⟨sb, i, none⟩ = some (.int .i64 (si : Nat)) := hC.cell ((cell_of hsh9).trans (by
                  have h1 : i < sh.length := (List.getElem?_eq_some_iff.1 hsi).1
                  rw [rowI_get _ _ _ h1]; congr 3; exact (List.getElem?_eq_some_iff.1 hsi).2)) (by simp)
                have c2 : wr.cell? ⟨sb, k, none⟩ = some (.int .i64 (sk : Nat)) := hC.cell ((cell_of hsh9).trans (by
                  have h1 : k < sh.length := (List.getElem?_eq_some_iff.1 hsk).1
                  rw [rowI_get _ _ _ h1]; congr 3; exact (List.getElem?_eq_some_iff.1 hsk).2)) (by simp)
                have c3 : wr.cell? ⟨rm, si, none⟩ = some (.int .i64 (x : Nat)) := by rw [← hmi']; exact hC.cell (M9.out si hsil) (by simp)
                have c4 : wr.cell? ⟨rm, sk, none⟩ = some (.int .i64 (y : Nat)) := by rw [← hmk']; exact hC.cell (M9.out sk hskl) (by simp)
                have hxm := HMEMR.out i (by omega)
                have hym := HMEMR.out k (by omega)
                rw [← hx] at hxm
                rw [← hy] at hym
                have HXM := Lib.hid hxm
                have HYM := Lib.hid hym
                have HX := Lib.hid hx
                have HY := Lib.hid hy
                have i1 : (k : Int) < (ml.length : Int) := by omega
                have i2 : (si : Int) < (ml.length : Int) := by omega
                have i3 : (sk : Int) < (ml.length : Int) := by omega
                have bk := b9.chg hC (by simp) (by simp)
                have xk := hC.cell x9 (by simp)
                clear hsi hsk hmi hmk hx hy hmi' hmk' hsh9 hxm hym
                go_wp2_with fail
                go_quiet (fail)
                rename_i nq
                clear c1 c2 c3 c4
                by_cases hsame : key x = key y
                · have HB : Hid (true = decide (keyE (scU us) (trU us) x = keyE (scU us) (trU us) y)) := Lib.hid (by rw [← HKEY.out]; simp [hsame])
                  have hidx : ord.idxOf x < ord.idxOf y := by
                    rw [HX.out, HY.out]
                    refine HIDX.out i k (by omega) hik ?_
                    rw [← HX.out, ← HY.out, ← HKEY.out]; exact hsame
                  go_wp2_with fail
                  refine (same_any b r L R pb x y us _ (Book.drewN bk _) xk true HB).mono ?_
                  rintro e w11 ⟨rfl, hc11⟩
                  have hC11 := hC.trans hc11.undrewN
                  have A13 := Lib.hid (hc11.undrewN.keep A12.out (by simp))
                  obtain ⟨ix, hix⟩ : ∃ ix, ix = ord.idxOf x := ⟨_, rfl⟩
                  obtain ⟨iy, hiy⟩ : ∃ iy, iy = ord.idxOf y := ⟨_, rfl⟩
                  have c5 : w11.cell? ⟨ga, x, none⟩ = some (.int .i64 (ix : Nat)) := (cell_of A13.out).trans (by rw [rowI_get _ _ _ (by rw [atL_len]; exact HXM.out.1), atL_all HXM.out.2 HXM.out.1, hix])
                  have c6 : w11.cell? ⟨ga, y, none⟩ = some (.int .i64 (iy : Nat)) := (cell_of A13.out).trans (by rw [rowI_get _ _ _ (by rw [atL_len]; exact HYM.out.1), atL_all HYM.out.2 HYM.out.1, hiy])
                  rw [← hix, ← hiy] at hidx
                  have d1 : decide (iy < ix) = false := by simp; omega
                  have d2 : decide ((iy : Int) < (ix : Int)) = false := by simp; omega
                  have hx9 : (x : Int) < 9 := by have := HXM.out.1; omega
                  have hy9 : (y : Int) < 9 := by have := HYM.out.1; omega
                  clear hix hiy hidx hsame HB bk xk hC hc11 A12
                  go_wp2_with fail
                  go_quiet (fail)
                  clear c5 c6
                  go_wp2
                  go_roundw
                  case rel => exact ⟨k + 1, false, by omega, by omega, by go_num, rfl, fun h => (by cases h), A13.out, hC11.drewN _⟩
                  case measure => simp [intOf] <;> omega
                · have HB : Hid (false = decide (keyE (scU us) (trU us) x = keyE (scU us) (trU us) y)) := Lib.hid (by rw [← HKEY.out]; simp [hsame])
                  have HNE : Hid (key x ≠ key y) := Lib.hid hsame
                  clear hsame
                  go_wp2_with fail
                  refine (same_any b r L R pb x y us _ (Book.drewN bk _) xk false HB).mono ?_
                  rintro e w11 ⟨rfl, hc11⟩
                  have hC11 := hC.trans hc11.undrewN
                  have A13 := Lib.hid (hc11.undrewN.keep A12.out (by simp))
                  clear HB bk xk hC hc11 A12
                  go_wp2
                  go_roundw
                  case rel => exact ⟨k + 1, U, by omega, by omega, by go_num, rfl, fun h => noPair2_step (HUU.out h) (by omega) hik (by rw [← HX.out, ← HY.out]; exact HNE.out), A13.out, hC11⟩
                  case measure => simp [intOf] <;> omega
              · have dk : decide (k < ml.length) = false := by simpa using hkm
                go_wp2
                go_roundw
                case rel => exact ⟨i + 1, U, by omega, by go_num, rfl, fun h => noPair2_end (HUU.out h) (by omega), A12.out, hC⟩
                case measure => simp [intOf] <;> omega
          · have di : decide (i < ml.length) = false := by simpa using him
            have hir : i = row.length := by omega
            have HIR := Lib.hid hir
            have x12 := hC.cell x9 (by simp)
            have b12 := b9.chg hC (by simp) (by simp)
            have O12 := Lib.hid (O9.out.chg hC (by simp))
            have hC12 := hC9.trans hC
            have hro12 : ro < wr.heap.size := World.block_lt_of_cell? _ _ (O12.out 0 (by omega))
            clear hir him x9 b9 M9 O9 SH9 hC9 hC
            cases U with
            | false =>
              go_wp2_with fail
              go_quiet (fail)
              go_wp2
              go_ret
              exact ⟨rfl, (hC12.drewN _).below (Nat.le_refl _) (by simp)⟩
            | true =>
              have HOE : Hid (ordN us (D.drawN sd []) 0 = ord) := Lib.hid (HAP.out (by rw [← HKEY.out, ← HIR.out]; exact HUU.out rfl))
              have S12 : Hid (wr.drew.cell? ⟨pb, 0, none⟩ = some (.pointer (some ⟨b, 0, none⟩))) := Lib.hid x12
              have hpb12 : pb < wr.heap.size := World.block_lt_of_cell? _ _ x12
              have hs12 : w.heap.size ≤ wr.heap.size := hC12.size
              go_wp2_with fail
              go_region_held3 (fun W => W.cell? ⟨pb, 0, none⟩ = some (.pointer (some ⟨b, 0, none⟩))) (first | (with_reducible exact S15.out) | (with_reducible exact S14.out) | (with_reducible exact S13.out) | (with_reducible exact S12.out)) (first | (go_at_call 10; go_must (refine (D.new_any sd _ [] _ (by decide) (by simp) D.reads_nil).mono ?_; rintro e9 w13 ⟨t, rfl, hwt, t13, hc13⟩; have S13 := Lib.hid (hc13.cell S12.out (by simp)); have b13 := (b12.chg hc13.undrew (by simp) (by simp)); have hwt2 : wr.heap.size ≤ t := hwt)) | (go_at_call 12; go_must (refine (order_any b r L R t sd 0 [] us ord _ b13 t13 (by decide) HOE).mono ?_; rintro e9 w14 ⟨a14, c14, rfl, own14, b14, t14, hc14⟩; have S14 := Lib.hid (hc14.cell S13.out (by simp; omega)); have O14 := Lib.hid (O12.out.chg (hc13.undrew.trans_new hc14 (by simp; omega)) (by simp)); have OWN14 := Lib.hid own14; have hcz : Chg [] wr w14 := hc13.undrew.trans_new hc14 (by simp; omega); clear own14)) | (go_at_call 11; go_must (refine (ints_c _ _ ord ord true (Lib.hid (by simp)) _ ?_ (row_of_own OWN14.out) (by omega) (by omega)).mono ?_; exact (by rw [← HL.out.2.2]; exact row_of_may (fun _ => rfl) O14.out); rintro e9 w15 ⟨rfl, hc15⟩; have S15 := Lib.hid (hc15.cell S14.out (by simp)))))
              have hC15 : Chg [] w w15 := (hC12.trans hcz).trans hc15
              go_wp2
              go_ret
              exact ⟨rfl, hC15.below (Nat.le_refl _) (by simp)⟩

end Go.Proofs.Ytdbannnbbngckaa
