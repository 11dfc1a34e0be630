/- The walk of DrawRow. -/
import Derived.Test.YteoenajklllakaaArgs
import Derived.Test.YteoenajklllakaaDrawPl3
namespace Go.Proofs.Yteoenajklllakaa
open Go.RowKit

/-- Which numbers below 256 were seen. -/
def seenRow (l : List Nat) : Array Value := ((List.range 256).map fun j => Value.bool (decide (j ∈ l))).toArray

theorem seen_zero (w : World) : (zeroValue 34).run Try.prog w = .ok (.agg (seenRow [])) w := by kernel_rfl

theorem seen_get (l : List Nat) (j : Nat) (h : j < 256) : (seenRow l)[j]? = some (.bool (decide (j ∈ l))) := by simp [seenRow, h]
theorem seen_set (l : List Nat) (j : Nat) (h : j < 256) : (seenRow l).setIfInBounds j (.bool true) = seenRow (l ++ [j]) := by
  apply Array.ext
  · simp [seenRow]
  · intro i h1 h2
    simp only [seenRow, List.size_toArray, List.length_map, List.length_range] at h2
    rw [Array.getElem_setIfInBounds (by simpa [seenRow] using h2)]
    simp [seenRow]
    by_cases e : j = i
    · simp [e]
    · simp [e]; intro hh; omega

def RowRel1 (s : Nat) (l : List Nat) (b c q n : Nat) (cur : List Nat) (w : World) (i : Value) (wr : World) : Prop :=
  ∃ k : Nat, k ≤ n ∧ i = .int .i64 k ∧ wr.heap[q]? = some (.cells (seenRow (cur.take k)) 34 (0, 0)) ∧ wr.heap[c]? = some (.cells (rowI .i64 cur) 3 (0, 0)) ∧ Chg [] w wr

def RowRel2 (n : Nat) (w : World) (v i : Value) (wr : World) : Prop :=
  ∃ k : Nat, k ≤ n - 1 ∧ i = .int .i64 ((n - 1 - k : Nat)) ∧ wr.ownsRow w.heap.size 22 1 v k ((placesN n k).map fun (x : Nat) => Value.int .u64 x) ∧ Chg [] w wr

def RowRel3 (n : Nat) (w1 : World) (i : Value) (wr : World) : Prop := ∃ k m : Nat, k ≤ n ∧ i = .int .i64 k ∧ wr = w1.drewN m

theorem reads_of_owns {w : World} {base : Nat} {k : IntKind} {t : TypeId} {v : Value} {n : Nat} {l : List Nat} (hn : n = l.length) (h : w.ownsRow base t 1 v n (l.map fun (x : Nat) => Value.int k x)) : Reads k w v l := by
  subst hn
  obtain ⟨_, h⟩ := h
  rcases h with ⟨hv, hn⟩ | ⟨g, cap, cur, hv, _, hh, _, _, _, ht⟩
  · have : l = [] := List.length_eq_zero_iff.1 hn
    subst this; subst hv; exact reads_nil
  · subst hv
    refine reads_row fun i hi => ?_
    rw [cell_of hh]
    have e1 : (cur.toList.take (l.length * 1))[i]? = some (.int k l[i]) := by
      rw [ht]; simp [hi]
    rw [List.getElem?_take, if_pos (by omega)] at e1
    simpa using e1

theorem ownBlock_new {w : World} {base : Nat} {t : TypeId} {sz : Nat} {v : Value} {n : Nat} {xs : List Value} (h : w.ownsRow base t sz v n xs) : ∀ k, v.ownBlock = some k → k ∈ ([] : List Nat) ∨ base ≤ k := by
  intro k hk
  obtain ⟨_, h⟩ := h
  rcases h with ⟨rfl, _⟩ | ⟨g, cap, cur, rfl, hg, _⟩
  · simp [Value.ownBlock] at hk
  · simp [Value.ownBlock] at hk; exact .inr (by omega)

set_option maxRecDepth 100000 in
set_option maxHeartbeats 4000000 in
theorem drawRow_walk (a0 : Int) (a1 : Option Addr) (len1 cap1 : Nat) (z1 : List Int) (a2 : Int) (w : World) (w0 : (Lit.int .u64 a0).wf = true) (w1 : IsRow .u64 w a1 len1 cap1 z1) (w2 : (Lit.int .i64 a2).wf = true) :
    Calls Try.prog 5 #[.int .u64 a0, .slice a1 len1 cap1, .int .i64 a2] w fun e w' => e = .returned (.bool true) ∧ Below w.heap.size w w' := by
  obtain ⟨s, rfl, hs⟩ := nat_of_u64 w0
  obtain ⟨l, hlen, hb, hrd, hrow, hmax⟩ := arg_u64 w1
  clear w0 w1 w2
  subst hlen
  unfold maxLen at hmax
  have HB := Lib.hid hb
  have HRD := Lib.hid hrd
  clear hb hrow hrd
  by_cases hbig : 2000 < l.length
  · go_enter Try.func5, Try.ntmps5
    go_wp2_with fail
    refine (awake_any _).mono ?_
    rintro e w1 ⟨rfl, hc1⟩
    go_wp2
    go_ret
    exact ⟨rfl, hc1.below (Nat.le_refl _) (by simp)⟩
  · obtain ⟨n1, hn1⟩ : ∃ n : Nat, IntKind.u64.wrap a2 = n := ⟨(IntKind.u64.wrap a2).toNat, by rw [IntKind.wrap_u64]; omega⟩
    go_enter Try.func5, Try.ntmps5
    go_wp2_with fail
    refine (awake_any _).mono ?_
    rintro e w1 ⟨rfl, hc1⟩
    go_wp2_with fail
    refine (new_any s _ l _ (by omega) HB.out (HRD.out.chg hc1 (by simp))).mono ?_
    rintro e w2 ⟨b, rfl, hb2, ht2, hc2⟩
    have hC2 : Chg [] w w2 := hc1.trans hc2
    have hwb : w.heap.size ≤ b := by have := hc1.size; omega
    clear hc1 hc2 hb2
    obtain ⟨n, hn⟩ : ∃ n, n = 1 + n1 % 256 := ⟨_, rfl⟩
    have hne : (1 : Int) + ((n1 : Int) % 256) = (n : Int) := by omega
    have hn1' : 1 ≤ n := by omega
    have hn2' : n ≤ 256 := by omega
    clear hn
    have hne' : (n : Int) - 1 = ((n - 1 : Nat) : Int) := by omega
    go_wp2_with fail
    refine (shuffle_any b s l 0 n _ ht2 (by decide) hn1' hn2').mono ?_
    rintro e w3 ⟨rfl, hr3, ht3, hc3⟩
    obtain ⟨c, hceq⟩ : ∃ c, c = w2.heap.size := ⟨_, rfl⟩
    rw [← hceq] at hr3 ⊢
    have hwc : w.heap.size ≤ c := by have := hC2.size; omega
    have hC3 : Chg [] w w3 := hC2.trans_new hc3 (by simp; omega)
    obtain ⟨cur, hcur⟩ : ∃ cur, cur = shufN (drawN s l) 0 n := ⟨_, rfl⟩
    have hnd : Hid cur.Nodup := by rw [hcur]; exact shufN_nodup _ _ _ hn1'
    have hltn : Hid (∀ x ∈ cur, x < n) := by rw [hcur]; exact shufN_lt _ _ _ hn1'
    have hcl : Hid (cur.length = n) := by rw [hcur]; exact shufN_length _ _ _
    rw [← hcur] at hr3
    have HR3 := Lib.hid hr3
    clear hceq hcur hC2 hc3 hr3
    go_wp2_with fail
    refine (used_any b s l _ _ ht3).mono ?_
    rintro e w4 ⟨rfl, rfl⟩
    rw [Nat.zero_add, ← hne']
    have hz := seen_zero
    go_wp2_with fail
    obtain ⟨q, hqeq⟩ : ∃ q, q = w3.heap.size := ⟨_, rfl⟩
    have hq0 := heap_new w3 (.cells (seenRow []) 34)
    have hqc : c ≠ q := by have := lt_of_block HR3.out; omega
    rw [← hqeq] at hq0 ⊢
    have hr4 := heap_old (o := .cells (seenRow []) 34) HR3.out
    have hwq : w.heap.size ≤ q := by have := hC3.size; omega
    clear hqeq
    go_loopw [10] (RowRel1 s l b c q n cur w) (fun i _ => n - (intOf i).toNat)
    case atStart => exact ⟨0, Nat.zero_le _, rfl, hq0, hr4, hC3.alloc _⟩
    case round =>
      clear hq0 hr4 hz
      obtain ⟨k, hk, rfl, hq, hr, hCk⟩ := hrel
      by_cases hlt : k < n
      · have hkl : k < cur.length := by rw [hcl.out]; exact hlt
        obtain ⟨x, hx⟩ : ∃ x, x = cur[k] := ⟨_, rfl⟩
        have hxn : x < n := by rw [hx]; exact hltn.out _ (List.getElem_mem _)
        have hxnot : x ∉ cur.take k := by
          intro hm
          rw [List.mem_take_iff_getElem] at hm
          obtain ⟨j, hj, e⟩ := hm
          have := (List.getElem_inj hnd.out).1 (e.trans hx)
          omega
        have c1 : wr.cell? ⟨c, k, none⟩ = some (.int .i64 (x : Nat)) := by rw [hx]; exact (cell_of hr).trans (rowI_get _ _ _ hkl)
        have c2 : wr.cell? ⟨q, x, none⟩ = some (.bool false) := by
          rw [cell_of hq, seen_get _ _ (by omega)]; simp [hxnot]
        have f2 : wr.frozen? ⟨q, x, none⟩ = false := free_of hq
        have HQ := Lib.hid hq
        have HR := Lib.hid hr
        have HX := Lib.hid hx
        clear hq hr hx hxnot
        have hx256 : (x : Int) < 256 := by omega
        have hx0 : decide ((x : Int) < 0) = false := by simp
        have hxn' : decide ((n : Int) ≤ (x : Int)) = false := by simp; omega
        have hxn2 : decide (n ≤ x) = false := by simp; omega
        go_wp2
        go_roundw
        case rel =>
          refine ⟨k + 1, by omega, by go_num, ?_, ?_, hCk.setCell (.inr hwq) _⟩
          · rw [heap_set HQ.out, seen_set _ _ (by omega), List.take_succ_eq_append_getElem hkl, ← HX.out]
          · rw [heap_set_other _ hqc]; exact HR.out
        case measure => simp [intOf]; omega
      · clear hq hr hnd hltn hcl HR3 ht3 hC3
        obtain ⟨i0, hi0, hz0, hz1, hz2⟩ := info_parts Try.elem64
        go_wp2_with fail
        go_loopw [11, 12] (RowRel2 n w) (fun _ i _ => (intOf i).toNat)
        case atStart => exact ⟨0, Nat.zero_le _, rfl, ⟨rfl, .inl ⟨rfl, rfl⟩⟩, hCk⟩
        case round =>
          obtain ⟨j, hj, rfl, hown, hCj⟩ := hrel
          clear hCk
          by_cases hlt : 0 < n - 1 - j
          · obtain ⟨x, hx⟩ : ∃ x, x = n - 1 - j := ⟨_, rfl⟩
            have hxp : 0 < x := by omega
            have hx1 : x ≤ 256 := by omega
            rw [← hx]
            have HX := Lib.hid hx
            have hpl := placesN_length n j
            have HOWN := Lib.hid hown
            clear hx hlt hown
            go_wp2_with (at_builtin; refine wpList_append_own _ rfl _ _ 28 rfl w.heap.size 22 i0 (.int .u64 0) 1 8 Try.underlying28 hi0 hz0 hz1 hz2 rfl (by decide) _ j _ rfl (HOWN.out.alloc _) ⟨wr.heap.size, 0, none⟩ 1 1 [.int .u64 (x : Nat)] rfl rfl (cell_one_new _ _ _) (by simp [Value.oneCell']) (by unfold maxLen; omega) (by omega) (by have := hCj.size; simp; omega) ?_; intro v1 w1 hown1 hg1 _)
            go_roundw
            case rel =>
              refine ⟨j + 1, by have := HX.out; omega, ?_, ?_, (hCj.alloc _).grown hg1 (ownBlock_new HOWN.out)⟩
              · have := HX.out; rw [show n - 1 - (j + 1) = x - 1 by omega]; go_num
              · rw [placesN_succ, List.map_append, ← HX.out]; exact hown1
            case measure => have := HX.out; simp [intOf]; omega
          · obtain rfl : j = n - 1 := by omega
            have hrd := reads_of_owns (placesN_length n (n - 1)).symm hown
            have hpl : (placesN n (n - 1)).length ≤ 1000000 := by rw [placesN_length]; omega
            have hplb : ∀ x ∈ placesN n (n - 1), x < 18446744073709551616 := by
              intro x hx; simp [placesN] at hx; obtain ⟨a, _, rfl⟩ := hx; omega
            have HRD2 := Lib.hid hrd
            have HPL := Lib.hid hpl
            have HPLB := Lib.hid hplb
            obtain ⟨av, cv, hv, _⟩ := hrd
            rw [placesN_length] at hv
            rw [hv]
            have HV := Lib.hid hv
            clear hown hpl hplb hlt hv
            go_wp2_with fail
            refine (new_any s _ (placesN n (n - 1)) _ HPL.out HPLB.out (HV.out ▸ HRD2.out)).mono ?_
            rintro e w5 ⟨b5, rfl, hb5, ht5, hc5⟩
            go_wp2_with fail
            refine (shuffle_any b5 s _ 0 n _ ht5 (by decide) hn1' hn2').mono ?_
            rintro e w6 ⟨rfl, hr6, _, hc6⟩
            rw [shufN_stays s n hn1'] at hr6
            obtain ⟨c6, hceq⟩ : ∃ c, c = w5.heap.size := ⟨_, rfl⟩
            rw [← hceq] at hr6 ⊢
            clear hceq
            have hC6 : Chg [] w w6 := (hCj.trans hc5).trans_new hc6 (by have := hCj.size; simp; omega)
            have HR6 := Lib.hid hr6
            clear hr6 hc5 hc6 ht5 hb5 hCj HRD2 HPL HPLB HV
            have hmk := fun (w : World) => run_make_ints (P := Try.prog) w 28 22 .u64 n 8 Try.underlying28 Try.elem64 (by omega) (by omega)
            go_wp2_with fail
            clear hmk
            refine (new_any s _ (List.replicate n 0) _ (by simp; omega) (by simp) ?_).mono ?_
            · have := reads_heap (c := n) (heap_new w6 (.cells (rowI .u64 (List.replicate n 0)) 22))
              simpa using this
            rintro e w7 ⟨b7, rfl, hb7, ht7, hc7⟩
            go_wp2_with fail
            refine (shuffle_any b7 s _ 0 n _ ht7 (by decide) hn1' hn2').mono ?_
            rintro e w8 ⟨rfl, hr8, _, hc8⟩
            rw [shufN_round s n hn1'] at hr8
            obtain ⟨c8, hceq⟩ : ∃ c, c = w7.heap.size := ⟨_, rfl⟩
            rw [← hceq] at hr8 ⊢
            clear hceq
            have hC8 : Chg [] w w8 := ((hC6.alloc _).trans hc7).trans_new hc8 (by have := hC6.size; simp at hb7 ⊢; omega)
            have hr68 : w8.heap[c6]? = some (.cells (rowI .i64 (List.range n)) 3 (0, 0)) := by
              have h1 : w7.heap[c6]? = _ := hc7.keep (heap_old HR6.out) (by simp)
              refine hc8.keep h1 ?_
              have h2 := lt_of_block HR6.out
              simp at hb7 ⊢; omega
            have HR8 := Lib.hid hr8
            have HR68 := Lib.hid hr68
            clear hr8 hr68 HR6 hc7 hc8 ht7 hb7 hC6
            go_wp2_with fail
            go_loopw [15] (RowRel3 n w8) (fun i _ => n - (intOf i).toNat)
            case atStart => exact ⟨0, 0, Nat.zero_le _, rfl, rfl⟩
            case round =>
              obtain ⟨i, m, hi, rfl, rfl⟩ := hrel
              by_cases hlt : i < n
              · have c1 : w8.cell? ⟨c6, i, none⟩ = some (.int .i64 (i : Nat)) := by
                  rw [cell_of HR68.out, rowI_get _ _ _ (by simpa using hlt)]; simp
                obtain ⟨y, hy⟩ : ∃ y, y = (i + 1) % n := ⟨_, rfl⟩
                have c2 : w8.cell? ⟨c8, i, none⟩ = some (.int .i64 (y : Nat)) := by
                  rw [cell_of HR8.out, rowI_get _ _ _ (by rw [roundN_length]; exact hlt), roundN_one n i hlt, hy]
                have hin : (i : Int) < (n : Int) := by omega
                have t2 : ((y : Int) != ((i : Int) + 1) % (n : Int)) = false := by
                  rw [hy]; simp
                have t3 : ((n : Int) == 0) = false := by simp; omega
                have t4 : ¬ n = 0 := by omega
                have t5 : (n == 0) = false := by simp; omega
                clear hy
                go_wp2_with fail
                go_quiet (fail)
                go_wp2
                go_roundw
                case rel => exact ⟨i + 1, _, by omega, by go_num, rfl⟩
                case measure => simp [intOf]; omega
              · go_wp2
                go_ret
                exact ⟨rfl, (hC8.drewN _).below (Nat.le_refl _) (by simp)⟩

end Go.Proofs.Yteoenajklllakaa
