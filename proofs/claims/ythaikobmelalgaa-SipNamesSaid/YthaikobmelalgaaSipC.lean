/- The walks of package sip: begin, take, before. -/
import Derived.Test.YthaikobmelalgaaSipB
import Derived.LoopTactic
namespace Go.Proofs.Ythaikobmelalgaa
open Go.RowKit

theorem xor_lit (x y : Nat) (hx : x < 18446744073709551616) (hy : y < 18446744073709551616) : bits .xor .u64 (x : Int) (y : Int) = ((x ^^^ y : Nat) : Int) := bits_xor_u64_nat x y hx hy

set_option maxRecDepth 100000 in
theorem begin_any (k0 k1 : Nat) (h0 : k0 < 18446744073709551616) (h1 : k1 < 18446744073709551616) (w : World) :
    Calls Try.prog 23 #[.agg #[.int .u64 k0, .int .u64 k1]] w fun e w' => e = .returned (.agg (stV (beginN k0 k1))) ∧ Chg [] w w' := by
  obtain ⟨a, ha⟩ : ∃ x, x = k0 ^^^ 8317987319222330741 := ⟨_, rfl⟩
  obtain ⟨b, hb⟩ : ∃ x, x = k1 ^^^ 7237128888997146477 := ⟨_, rfl⟩
  obtain ⟨c, hc⟩ : ∃ x, x = k0 ^^^ 7816392313619706465 := ⟨_, rfl⟩
  obtain ⟨d, hd⟩ : ∃ x, x = k1 ^^^ 8387220255154660723 := ⟨_, rfl⟩
  have ea : bits .xor .u64 (k0 : Int) 8317987319222330741 = (a : Int) := by rw [ha]; exact xor_lit k0 8317987319222330741 h0 (by decide)
  have eb : bits .xor .u64 (k1 : Int) 7237128888997146477 = (b : Int) := by rw [hb]; exact xor_lit k1 7237128888997146477 h1 (by decide)
  have ec : bits .xor .u64 (k0 : Int) 7816392313619706465 = (c : Int) := by rw [hc]; exact xor_lit k0 7816392313619706465 h0 (by decide)
  have ed : bits .xor .u64 (k1 : Int) 8387220255154660723 = (d : Int) := by rw [hd]; exact xor_lit k1 8387220255154660723 h1 (by decide)
  have FIN : Hid (stV (beginN k0 k1) = #[.int .u64 a, .int .u64 b, .int .u64 c, .int .u64 d]) := by
    refine Lib.hid ?_
    rw [ha, hb, hc, hd]; rfl
  clear ha hb hc hd
  go_enter Try.func23, Try.ntmps23
  go_wp2
  refine bodyPost_ret (v := .agg #[.int .u64 a, .int .u64 b, .int .u64 c, .int .u64 d]) (by simp [results, Try.results23, go_sem]) rfl ⟨by rw [FIN.out], ?_⟩
  exact ((Chg.refl _ _).alloc _).alloc _

theorem or_word (m b : Nat) (hm : m * 256 + b < 18446744073709551616) (hb : b < 256) : bits .or .u64 ((m : Int) * 256) (b : Int) = ((m * 256 + b : Nat) : Int) := by
  rw [show ((m : Int) * 256) = ((m * 256 : Nat) : Int) by omega, bits_or_u64_nat (m * 256) b (Nat.lt_of_le_of_lt (Nat.le_add_right _ _) hm) (Nat.lt_trans hb (by decide))]
  congr 1
  rw [show m * 256 = m <<< 8 by simp [Nat.shiftLeft_eq], ← Nat.shiftLeft_add_eq_or_of_lt (by omega : b < 2 ^ 8)]

/-- The bytes of a block. -/
def byV (l : List Nat) : Array Value := rowI .u8 l

def takeRel (l : List Nat) (m i : Value) : Prop := ∃ k : Nat, k ≤ 8 ∧ i = .int .i64 ((k : Int) - 1) ∧ m = .int .u64 (wordN (l.drop k) : Nat)

set_option maxHeartbeats 1000000 in
theorem take_any (s : St) (hs : s.ok) (l : List Nat) (hl : l.length = 8) (hb : ∀ x ∈ l, x < 256) (w : World) :
    Calls Try.prog 20 #[.agg (stV s), .agg (byV l)] w fun e w' => e = .returned (.agg (stV (takeN s (wordN l)))) ∧ Chg [] w w' := by
  obtain ⟨a, b, c, d⟩ := s
  have hl2 : ∀ k, k < 8 → ∃ x : Nat, x < 256 ∧ (byV l)[k]? = some (.int .u8 x) ∧ wordN (l.drop k) = wordN (l.drop (k + 1)) * 256 + x := by
    intro k hk
    have hk' : k < l.length := by omega
    exact ⟨l[k], hb _ (List.getElem_mem hk'), rowI_get _ _ _ hk', wordN_drop l k hk'⟩
  have hwl : ∀ k, wordN (l.drop k) < 18446744073709551616 := by
    intro k
    have h1 := wordN_lt (l.drop k) fun x hx => hb x (List.mem_of_mem_drop hx)
    have h2 : (l.drop k).length ≤ 8 := by simp; omega
    exact Nat.lt_of_lt_of_le h1 (Nat.le_trans (Nat.pow_le_pow_right (by decide) h2) (by decide))
  obtain ⟨m, hm⟩ : ∃ m, m = wordN l := ⟨_, rfl⟩
  have hmw : wordN (l.drop 0) = m := by rw [hm]; rfl
  have lm : m < 18446744073709551616 := by rw [← hmw]; exact hwl 0
  obtain ⟨d1, hd1⟩ : ∃ x, x = d ^^^ m := ⟨_, rfl⟩
  have ld1 : d1 < 18446744073709551616 := by rw [hd1]; exact xor_lt' hs.2.2.2 lm
  have ed1 := xor_at d m d1 hs.2.2.2 lm hd1
  obtain ⟨s1, hs1⟩ : ∃ s, s = roundN ⟨a, b, c, d1⟩ := ⟨_, rfl⟩
  have ok1 : s1.ok := by rw [hs1]; exact roundN_ok _ ⟨hs.1, hs.2.1, hs.2.2.1, ld1⟩
  obtain ⟨s2, hs2⟩ : ∃ s, s = roundN s1 := ⟨_, rfl⟩
  have ok2 : s2.ok := by rw [hs2]; exact roundN_ok _ ok1
  obtain ⟨a2, b2, c2, d2⟩ := s2
  obtain ⟨a3, ha3⟩ : ∃ x, x = a2 ^^^ m := ⟨_, rfl⟩
  have ea3 := xor_at a2 m a3 ok2.1 lm ha3
  have FIN : Hid (stV (takeN ⟨a, b, c, d⟩ (wordN l)) = #[.int .u64 a3, .int .u64 b2, .int .u64 c2, .int .u64 d2]) := by
    refine Lib.hid ?_
    unfold takeN
    simp only []
    rw [← hm, ← hd1, ← hs1, ← hs2, ← ha3]
    rfl
  rw [FIN.out]
  obtain ⟨a1, b1, c1, e1⟩ := s1
  have HS1 := Lib.hid hs1
  have HS2 := Lib.hid hs2
  have HL := Lib.hid hl2
  have HW := Lib.hid hwl
  have HMW := Lib.hid hmw
  clear hd1 hs1 hs2 ha3 hl2 hwl hm hmw
  unfold stV
  go_enter Try.func20, Try.ntmps20
  go_wp2
  obtain ⟨q, hq⟩ : ∃ q, q = w.heap.size := ⟨_, rfl⟩
  refine wp_abs ?_
  intro w0 hw0
  have h0 : StAt w0 q 37 a b c d := by
    subst hw0; subst hq; unfold StAt; exact heap_old (heap_old (heap_new _ _))
  have h1 : w0.heap[q + 1]? = some (.cells (byV l) 38) := by
    subst hw0; subst hq; exact heap_old (heap_new' _ _ _ (by simp))
  have hc0 : Chg [] w w0 := by rw [hw0]; exact (((Chg.refl _ _).alloc _).alloc _).alloc _
  have g0 : StAt w0 (q + 1 + 1) 37 0 0 0 0 := by
    subst hw0; subst hq; unfold StAt; exact heap_new' _ _ _ (by simp)
  rw [← hq]
  have hq' : w.heap.size ≤ q := by omega
  clear hw0 hq
  go_loop [5, 6] (takeRel l) (fun _ i => (intOf i + 1).toNat)
  case atStart => exact ⟨8, Nat.le_refl _, rfl, by rw [List.drop_of_length_le (by omega)]; rfl⟩
  case round =>
    obtain ⟨k, hk, rfl, rfl⟩ := hrel
    cases k with
    | zero =>
      rw [HMW.out]
      have k0 := h0.c0
      have k1 := h0.c1
      have k2 := h0.c2
      have k3 := h0.c3
      have f3 := h0.fr 3
      go_wp2_with fail
      have Q1 := round_any a b c d1 hs.1 hs.2.1 hs.2.2.1 ld1
      rw [← HS1.out] at Q1
      refine (Q1 _).mono ?_
      rintro e w1 ⟨rfl, hc1⟩
      clear Q1
      unfold stV
      go_wp2_with fail
      have Q2 := round_any a1 b1 c1 e1 ok1.1 ok1.2.1 ok1.2.2.1 ok1.2.2.2
      rw [← HS2.out] at Q2
      refine (Q2 _).mono ?_
      rintro e w2 ⟨rfl, hc2⟩
      clear Q2
      have hC : Chg [] (w0.setCell ⟨q, 3, none⟩ (.int .u64 d1)) w2 := hc1.trans hc2
      have h2 : StAt w2 q 37 a b c d1 := hC.keep (h0.s3 d1) (by simp)
      have g2 : StAt w2 (q + 1 + 1) 37 0 0 0 0 := hC.keep ((heap_set_other _ (by omega)).trans g0) (by simp)
      have hC2 : Chg [] w w2 := (hc0.setCell (.inr hq') _).trans hC
      unfold stV
      clear hC hc1 hc2 h0 g0 hc0 k0 k1 k2 k3 f3
      have k0 := h2.c0
      have k1 := h2.c1
      have k2 := h2.c2
      have k3 := h2.c3
      have f0 := h2.fr 0
      have f1 := h2.fr 1
      have f2 := h2.fr 2
      have f3 := h2.fr 3
      have m0 := g2.c0
      have m1 := g2.c1
      have m2 := g2.c2
      have m3 := g2.c3
      have e0 := g2.fr 0
      have e1 := g2.fr 1
      have e2 := g2.fr 2
      have e3 := g2.fr 3
      go_wp2_with fail
      refine bodyPost_ret (v := .agg #[.int .u64 a3, .int .u64 b2, .int .u64 c2, .int .u64 d2]) (by simp [results, Try.results20, go_sem, m0, m1, m2, m3]) rfl ⟨rfl, ?_⟩
      iterate 4 (refine Chg.setCell ?_ (.inr (by simp; omega)) _)
      iterate 5 (refine Chg.setCell ?_ (.inr hq') _)
      exact hC2
    | succ k =>
      obtain ⟨x, hx, hcx, hwx⟩ := HL.out k (by omega)
      have hcell : w0.cell? ⟨q + 1, k, none⟩ = some (.int .u8 x) := (cell_of h1).trans hcx
      obtain ⟨y, hy⟩ : ∃ y, y = wordN (l.drop (k + 1)) := ⟨_, rfl⟩
      have hlt := HW.out k
      rw [hwx, ← hy] at hlt
      rw [← hy] at hwx ⊢
      have HY := Lib.hid hwx
      have hor := or_word y x hlt hx
      have t1 : ((k + 1 : Nat) : Int) - 1 = (k : Int) := by omega
      rw [t1]
      clear hwx hcx hy t1
      go_wp2_with fail
      go_round
      case rel => exact ⟨k, by omega, by go_num, by rw [HY.out]; go_num⟩
      case measure => simp [intOf] <;> omega

end Go.Proofs.Ythaikobmelalgaa
