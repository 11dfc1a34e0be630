/- The walks of the document's tape: low, Next, Below, Shuffle, Copy, New. -/
import Derived.Test.YteehenajchdgaaaDrawC
import Derived.Test.YteehenajchdgaaaReads12
namespace Go.Proofs.Yteehenajchdgaaa.D
open Go.RowKit

theorem low_any (x k r : Nat) (w : World) (hx : x < 18446744073709551616) (hk : k ≤ 64) (hr : r = x / 2 ^ k) :
    Calls Try.prog 41 #[.int .u64 x, .int .i64 k] w fun e w' => e = .returned (.int .u64 r) ∧ w = w' := by
  have HR := Lib.hid hr
  clear hr
  go_enter Try.func41, Try.ntmps41
  go_wp2
  go_loop [0, 5] (fun v i => ∃ j y : Nat, j ≤ k ∧ i = .int .i64 j ∧ v = .int .u64 y ∧ y = x / 2 ^ j) (fun _ i => k - (intOf i).toNat)
  case atStart => exact ⟨0, x, Nat.zero_le _, rfl, rfl, by simp⟩
  case round =>
    obtain ⟨j, y, hj, rfl, rfl, hy⟩ := hrel
    have hyb : y < 18446744073709551616 := by rw [hy]; exact Nat.lt_of_le_of_lt (Nat.div_le_self _ _) hx
    have HY := Lib.hid hy
    clear hy
    by_cases hlt : j < k
    · go_wp2
      go_round
      case rel => exact ⟨j + 1, y / 2, by omega, by go_num, by go_num, by rw [HY.out, Nat.div_div_eq_div_mul, Nat.pow_succ]⟩
      case measure => simp [intOf]; omega
    · obtain rfl : j = k := by omega
      go_wp2
      go_ret
      have e : r = y := by rw [HY.out, HR.out]
      exact ⟨by rw [e]; rfl, rfl⟩

theorem low_at (x : Int) (xn k r : Nat) (w : World) (e : x = xn) (hx : xn < 18446744073709551616) (hk : k ≤ 64) (hr : r = xn / 2 ^ k) :
    Calls Try.prog 41 #[.int .u64 x, .int .i64 k] w fun e w' => e = .returned (.int .u64 r) ∧ w = w' := by
  subst e; exact low_any xn k r w hx hk hr

/-- The block b is a tape of the document's. -/
def RTape (w : World) (b seed : Nat) (l : List Nat) (n : Nat) : Prop :=
  ∃ v, w.heap[b]? = some (.cells #[.int .u64 (((seed + (n - l.length) * 11400714819323198485) % 18446744073709551616 : Nat)), v, .int .i64 n] 63 (0, 0)) ∧ Nums w v l

theorem nums_set {w : World} {b i : Nat} {v x : Value} {l : List Nat} {c : Array Value} {t : TypeId} {f : Nat × Nat} (h : Nums w v l) (hb : w.heap[b]? = some (.cells c t f)) (ht : t ≠ 22) : Nums (w.setCell ⟨b, i, none⟩ x) v l := by
  refine nums_chg (S := [b]) h (Chg.set1 _ _ _ _) ?_
  intro k hk c' f' he
  simp at hk
  subst hk
  rw [hb] at he
  cases he
  exact ht rfl

set_option maxHeartbeats 1000000 in
theorem rnext_any (b seed : Nat) (l : List Nat) (n : Nat) (w : World) (ht : RTape w b seed l n) (hn : n < 4611686018427387904) :
    Calls Try.prog 35 #[.pointer (some ⟨b, 0, none⟩)] w fun e w' => e = .returned (.int .u64 (drawN seed l n)) ∧ RTape w' b seed l (n + 1) ∧ Chg [b] w w' := by
  obtain ⟨v, h1, h2⟩ := ht
  obtain ⟨a, c, rfl⟩ := h2.slice
  obtain ⟨sc, hsc⟩ : ∃ sc, sc = (seed + (n - l.length) * 11400714819323198485) % 18446744073709551616 := ⟨_, rfl⟩
  rw [← hsc] at h1
  have hscb : sc < 18446744073709551616 := by rw [hsc]; exact Nat.mod_lt _ (by decide)
  have HSC := Lib.hid hsc
  clear hsc
  have c2 : w.cell? ⟨b, 0 + 2, none⟩ = some (.int .i64 n) := cell_of h1
  have f2 : w.frozen? ⟨b, 0 + 2, none⟩ = false := free_of h1
  obtain ⟨w1, hw1⟩ : ∃ w1, w1 = w.setCell ⟨b, 2, none⟩ (.int .i64 ((n : Int) + 1)) := ⟨_, rfl⟩
  have k1 : w1.heap[b]? = some (.cells #[.int .u64 sc, .slice a l.length c, .int .i64 ((n : Int) + 1)] 63 (0, 0)) := by rw [hw1, heap_set h1]; rfl
  have hn1 : Nums w1 (.slice a l.length c) l := by rw [hw1]; exact nums_set h2 h1 (by decide)
  have hc1 : Chg [b] w w1 := by rw [hw1]; exact Chg.set1 _ _ _ _
  have hm : l.length ≤ 9223372036854775807 := by have := h2.1; unfold maxLen at this; exact this
  have HW1 := Lib.hid hw1
  clear hw1 h1 h2
  have d0 : w1.cell? ⟨b, 0, none⟩ = some (.int .u64 sc) := cell_of k1
  have d1 : w1.cell? ⟨b, 0 + 1, none⟩ = some (.slice a l.length c) := cell_of k1
  have d2 : w1.cell? ⟨b, 0 + 2, none⟩ = some (.int .i64 ((n : Int) + 1)) := cell_of k1
  have e0 : w1.frozen? ⟨b, 0, none⟩ = false := free_of k1
  have K1 := Lib.hid k1
  clear k1
  by_cases hlt : n < l.length
  · rcases id hn1 with ⟨_, _, ⟨rfl, _⟩ | ⟨r, c', cs, f, hv, hr, hcs⟩⟩
    · simp at hlt
    have e3 : drawN seed l n = l[n] := by unfold drawN; rw [dif_pos hlt]
    injection hv with hv1 hv2 hv3
    subst hv1
    have c4 : w1.cell? ⟨r, n, none⟩ = some (.int .u64 (l[n] : Nat)) := (cell_of hr).trans (hcs n hlt)
    rw [e3]
    have HR := Lib.hid hr
    have hi : (n : Int) < (l.length : Int) := by omega
    have t1 : IntKind.i64.wrap ((n : Int) + 1 - 1) = n := by rw [IntKind.wrap_i64]; omega
    have t2 : (n : Int) + 1 - 1 = n := by omega
    clear hr hcs e3 hv2 hv3
    go_enter Try.func35, Try.ntmps35
    go_wp2_with fail
    rw [← HW1.out]
    go_quiet (fail)
    go_wp2_with fail
    go_quiet (fail)
    go_wp2
    go_ret
    refine ⟨rfl, ⟨.slice (some ⟨r, 0, none⟩) l.length c, ?_, hn1⟩, (hc1.drewN _).drewN _⟩
    have e1 : (seed + (n + 1 - l.length) * 11400714819323198485) % 18446744073709551616 = sc := by
      rw [HSC.out, show n + 1 - l.length = n - l.length by omega]
    rw [e1]
    exact K1.out
  · have t0 : ¬ ((n : Int) + 1 ≤ (l.length : Int)) := by omega
    have t1 : decide ((n : Int) + 1 ≤ (l.length : Int)) = false := by simp; omega
    obtain ⟨sd, hsd⟩ : ∃ sd, sd = (sc + 11400714819323198485) % 18446744073709551616 := ⟨_, rfl⟩
    have t2 : IntKind.u64.wrap ((sc : Int) + 11400714819323198485) = (sd : Int) := by rw [IntKind.wrap_u64, hsd]; omega
    have hsdb : sd < 18446744073709551616 := by rw [hsd]; exact Nat.mod_lt _ (by decide)
    have hsd2 : sd = (seed + (n + 1 - l.length) * 11400714819323198485) % 18446744073709551616 := by
      rw [hsd, HSC.out, show n + 1 - l.length = n - l.length + 1 by omega]; omega
    have hdr : Hid (drawN seed l n = mixN sd) := by
      show _ = _
      unfold drawN
      rw [dif_neg hlt, hsd2, show n + 1 - l.length = n - l.length + 1 by omega]
    have HSD := Lib.hid hsd2
    clear hsd hsd2
    go_enter Try.func35, Try.ntmps35
    go_wp2_with fail
    rw [← HW1.out]
    go_quiet (fail)
    obtain ⟨r1, hr1⟩ : ∃ r, r = sd / 2 ^ 30 := ⟨_, rfl⟩
    obtain ⟨z1, hz1⟩ : ∃ z, z = (sd ^^^ sd / 1073741824) * 13787848793156543929 % 18446744073709551616 := ⟨_, rfl⟩
    have hz1b : z1 < 18446744073709551616 := by rw [hz1]; exact Nat.mod_lt _ (by decide)
    have t3 : IntKind.u64.wrap (bits .xor .u64 (sd : Int) (r1 : Int) * 13787848793156543929) = (z1 : Int) := by
      rw [hr1, hz1]; exact mixStep_u64 sd 1073741824 13787848793156543929 hsdb
    obtain ⟨r2, hr2⟩ : ∃ r, r = z1 / 2 ^ 27 := ⟨_, rfl⟩
    obtain ⟨z2, hz2⟩ : ∃ z, z = (z1 ^^^ z1 / 134217728) * 10723151780598845931 % 18446744073709551616 := ⟨_, rfl⟩
    have hz2b : z2 < 18446744073709551616 := by rw [hz2]; exact Nat.mod_lt _ (by decide)
    have t4 : IntKind.u64.wrap (bits .xor .u64 (z1 : Int) (r2 : Int) * 10723151780598845931) = (z2 : Int) := by
      rw [hr2, hz2]; exact mixStep_u64 z1 134217728 10723151780598845931 hz1b
    obtain ⟨r3, hr3⟩ : ∃ r, r = z2 / 2 ^ 31 := ⟨_, rfl⟩
    obtain ⟨z3, hz3⟩ : ∃ z, z = mixN sd := ⟨_, rfl⟩
    have t5 : bits .xor .u64 (z2 : Int) (r3 : Int) = (z3 : Int) := by
      have := xorShift_u64 z2 2147483648 hz2b
      rw [hr3, hz3]
      refine Eq.trans this ?_
      rw [hz2, hz1]; rfl
    have HR1 := Lib.hid hr1
    have HR2 := Lib.hid hr2
    have HR3 := Lib.hid hr3
    have HZ3 := Lib.hid hz3
    clear hr1 hr2 hr3 hz1 hz2 hz3
    go_wp2_with fail
    refine (low_any sd 30 r1 _ hsdb (by decide) HR1.out).mono ?_
    rintro e w2 ⟨rfl, rfl⟩
    go_wp2_with fail
    refine (low_any z1 27 r2 _ hz1b (by decide) HR2.out).mono ?_
    rintro e w3 ⟨rfl, rfl⟩
    go_wp2_with fail
    refine (low_any z2 31 r3 _ hz2b (by decide) HR3.out).mono ?_
    rintro e w4 ⟨rfl, rfl⟩
    go_wp2
    go_ret
    refine ⟨?_, ⟨.slice a l.length c, ?_, ?_⟩, (hc1.drewN _).setCell (.inl (List.Mem.head _)) _⟩
    · rw [hdr.out, ← HZ3.out]; rfl
    · rw [← HSD.out]
      show (w1.setCell _ _).heap[b]? = _
      rw [heap_set K1.out]; rfl
    · exact nums_set (w := w1) hn1 K1.out (by decide)

theorem RTape.small {w : World} {b seed : Nat} {l : List Nat} {n : Nat} (h : RTape w b seed l n) : drawN seed l n < 18446744073709551616 := by
  obtain ⟨v, _, _, hl, _⟩ := h
  exact drawN_lt _ _ _ hl
theorem RTape.lt {w : World} {b seed : Nat} {l : List Nat} {n : Nat} (h : RTape w b seed l n) : b < w.heap.size := by
  obtain ⟨v, h1, _⟩ := h
  exact lt_of_block h1
/-- The document's tape stays while blocks change that are no rows of numbers. -/
theorem RTape.chg {S : List Nat} {w w' : World} {b seed : Nat} {l : List Nat} {n : Nat} (h : RTape w b seed l n) (hc : Chg S w w') (hb : b ∉ S)
    (hS : ∀ k ∈ S, ∃ c f t, w.heap[k]? = some (.cells c t f) ∧ t ≠ 22) : RTape w' b seed l n := by
  obtain ⟨v, h1, h2⟩ := h
  refine ⟨v, hc.keep h1 hb, nums_chg h2 hc ?_⟩
  intro k hk c f he; obtain ⟨c, f, t, ht, hne⟩ := hS _ hk; rw [he] at ht; cases ht; exact hne rfl
theorem RTape.own {w : World} {b seed : Nat} {l : List Nat} {n : Nat} (h : RTape w b seed l n) : ∃ c f t, w.heap[b]? = some (.cells c t f) ∧ t ≠ 22 ∧ t ≠ 23 := by
  obtain ⟨v, h1, _⟩ := h
  exact ⟨_, _, _, h1, by decide, by decide⟩

theorem rnew_any (seed : Nat) (v : Value) (l : List Nat) (w : World) (hs : seed < 18446744073709551616) (hl : l.length ≤ 1000000) (hb : ∀ x ∈ l, x < 18446744073709551616) (hv : Reads .u64 w v l) :
    Calls Try.prog 22 #[.int .u64 seed, v] w fun e w' => ∃ b, e = .returned (.pointer (some ⟨b, 0, none⟩)) ∧ w.heap.size ≤ b ∧ RTape w' b seed l 0 ∧ Chg [] w w' ∧
      ∀ S w2, Chg S w' w2 → (∀ k ∈ S, k < w.heap.size) → RTape w2 b seed l 0 := by
  obtain ⟨a, c, rfl, hn, hnn, hc⟩ := hv
  have hmax : l.length ≤ maxLen := by unfold maxLen; omega
  have hsd : Hid ((seed + (0 - l.length) * 11400714819323198485) % 18446744073709551616 = seed) := by
    show _ = _
    rw [Nat.zero_sub, Nat.zero_mul, Nat.add_zero]; exact Nat.mod_eq_of_lt hs
  have fin : ∀ (v : Value) (w1 : World) (n : Nat), n = w1.heap.size → Nums w1 v l → StableNums w.heap.size w1 v l → Chg [] w w1 →
      ∃ b, Ending.returned (.pointer (some ⟨n, 0, none⟩)) = .returned (.pointer (some ⟨b, 0, none⟩)) ∧ w.heap.size ≤ b ∧ RTape (w1.alloc (.cells #[.int .u64 seed, v, .int .i64 0] 63)) b seed l 0 ∧ Chg [] w (w1.alloc (.cells #[.int .u64 seed, v, .int .i64 0] 63)) ∧
      ∀ S w2, Chg S (w1.alloc (.cells #[.int .u64 seed, v, .int .i64 0] 63)) w2 → (∀ k ∈ S, k < w.heap.size) → RTape w2 b seed l 0 := by
    intro v w1 n hn hnum hst hc1
    subst hn
    refine ⟨_, rfl, hc1.size, ⟨v, ?_, nums_chg (S := []) hnum ((Chg.refl _ _).alloc _) (by simp)⟩, hc1.alloc _, ?_⟩
    · rw [hsd.out]; exact heap_new _ _
    · intro S w2 hc2 hS
      refine ⟨v, ?_, hst S w2 (((Chg.refl S w1).alloc _).trans hc2) hS⟩
      rw [hsd.out]
      exact hc2.keep (heap_new _ _) fun hk => by have := hS _ hk; have := hc1.size; omega
  have HF := Lib.hid fin
  have HB := Lib.hid hb
  cases a with
  | none =>
    have hle : l = [] := Classical.byContradiction fun h => hnn h rfl
    have : c = 0 := hn rfl
    subst hle; subst this
    obtain ⟨i0, hi, hz0, hz1, hz2⟩ := info_parts Try.elem64
    have hown := owns_empty w 22
    clear hn hnn hc fin hb
    simp only [List.length_nil]
    go_enter Try.func22, Try.ntmps22
    go_wp2_with (at_builtin; refine wpList_append_own_none rfl _ _ 23 rfl w.heap.size 22 i0 1 Try.underlying23 hi _ 0 [] rfl hown rfl ?_)
    go_ret
    exact HF.out (.slice (some ⟨w.heap.size, 0, none⟩) 0 0) (w.alloc (.cells #[] 22)) (w.heap.size + 1) (by simp) ⟨Nat.zero_le _, by simp, .inl ⟨rfl, _, _, rfl⟩⟩ (fun _ _ _ _ => ⟨Nat.zero_le _, by simp, .inl ⟨rfl, _, _, rfl⟩⟩) ((Chg.refl _ _).alloc _)
  | some p =>
    obtain ⟨i0, hi, hz0, hz1, hz2⟩ := info_parts Try.elem64
    have hown := owns_empty w 22
    have hlt : l ≠ [] → p.block < w.heap.size := by
      intro hne
      have hpos : 0 < l.length := List.length_pos_iff.2 hne
      have := World.block_lt_of_cell? _ _ (hc p rfl 0 hpos)
      rwa [add_block] at this
    have hnews : ∀ j u, (l.map fun (x : Nat) => Value.int .u64 x)[j]? = some u → (w.alloc (.cells #[] 22)).cell? (p.add j) = some u := by
      refine news_int fun i h => ?_
      rw [World.cell?_alloc_lt _ _ _ (by rw [add_block]; exact hlt (by intro e; subst e; simp at h))]
      exact hc p rfl i h
    clear hc hb hlt hn hnn fin
    have HM := Lib.hid hmax
    clear hmax
    go_enter Try.func22, Try.ntmps22
    go_wp2_with (at_builtin; refine wpList_append_own _ rfl _ _ 23 rfl w.heap.size 22 i0 (.int .u64 0) 1 8 Try.underlying23 hi hz0 hz1 hz2 rfl (by decide) _ 0 [] rfl hown p l.length c (l.map fun (x : Nat) => Value.int .u64 x) rfl (by simp) hnews news_one (by have := HM.out; omega) (by omega) (by simp) ?_; intro v1 w1 hown1 hg1 _; obtain ⟨a1, c1, rfl⟩ := (nums_of_owns HM.out HB.out hown1).slice)
    go_ret
    refine HF.out (.slice a1 l.length c1) w1 w1.heap.size rfl (nums_of_owns HM.out HB.out hown1) (fun S w2 hc hS => nums_of_owns HM.out HB.out (owns_stable hown1 hc hS)) (((Chg.refl [] w).alloc _).grown hg1 ?_)
    intro k hk
    injection hk with hk
    subst hk
    exact .inr (Nat.le_refl _)

end Go.Proofs.Yteehenajchdgaaa.D
