/- The walk of DrawPlays. -/
import Derived.Test.YteoenajklllakaaRef12b
import Derived.Test.YteoenajklllakaaActs12
import Derived.Test.YteoenajklllakaaArgs
import Derived.Deep.RegionHeld3
namespace Go.Proofs.Yteoenajklllakaa
open Go.RowKit

def PlaysRel1 (n g cap : Nat) (w3 : World) (i : Value) (wr : World) : Prop :=
  ∃ (k : Nat) (cur : Array Value), k ≤ n ∧ i = .int .i64 k ∧ wr.heap[g]? = some (.cells cur 22 (0, 0)) ∧ cur.size = cap ∧ Chg [g] w3 wr

def PlaysRel2 (s : Nat) (l : List Nat) (m : Nat) (w : World) (t x i : Value) (wr : World) : Prop :=
  ∃ k u b c : Nat, k ≤ m ∧ i = .int .i64 k ∧ t = .pointer (some ⟨b, 0, none⟩) ∧ x = .pointer (some ⟨c, 0, none⟩) ∧ u ≤ 300 * k ∧ TapeAt wr b s l u ∧ RTape wr c s l u ∧ Chg [] w wr ∧ w.heap.size ≤ b ∧ w.heap.size ≤ c ∧ b ≠ c

def PlaysRel3 (n g : Nat) (w3 : World) (i : Value) (wr : World) : Prop :=
  ∃ (k : Nat) (cur : Array Value), k ≤ n ∧ i = .int .i64 k ∧ wr.heap[g]? = some (.cells cur 3 (0, 0)) ∧ cur.size = n ∧ Chg [g] w3 wr

theorem RTape.other {w w' : World} {b c s s' : Nat} {l l' : List Nat} {n n' : Nat} (h : RTape w b s l n) (h' : TapeAt w c s' l' n') (hc : Chg [c] w w') (hb : b ≠ c) : RTape w' b s l n :=
  h.chg hc (by simpa using hb) (by intro k hk; simp at hk; subst hk; obtain ⟨c, f, t, h1, h2, _⟩ := h'.own; exact ⟨c, f, t, h1, h2⟩)
theorem TapeAt.otherR {w w' : World} {b c s s' : Nat} {l l' : List Nat} {n n' : Nat} (h : TapeAt w b s l n) (h' : RTape w c s' l' n') (hc : Chg [c] w w') (hb : b ≠ c) : TapeAt w' b s l n :=
  h.chg hc (by simpa using hb) (by intro k hk; simp at hk; subst hk; exact h'.own)
theorem RTape.cellN {w : World} {b s n : Nat} {l : List Nat} (h : RTape w b s l n) : w.cell? ⟨b, 0 + 2, none⟩ = some (.int .i64 n) := by
  obtain ⟨v, h1, _⟩ := h
  exact cell_of h1

theorem reads_of_owns' {w : World} {base : Nat} {k : IntKind} {t : TypeId} {v : Value} {n : Nat} {l : List Nat} (hn : n = l.length) (h : w.ownsRow base t 1 v n (l.map fun (x : Nat) => Value.int k x)) : Reads k w v l := by
  subst hn
  obtain ⟨_, h⟩ := h
  rcases h with ⟨hv, hn⟩ | ⟨g, cap, cur, hv, _, hh, _, _, _, ht⟩
  · have : l = [] := List.length_eq_zero_iff.1 hn
    subst this; subst hv; exact reads_nil
  · subst hv
    refine reads_row fun i hi => ?_
    rw [cell_of hh]
    have e1 : (cur.toList.take (l.length * 1))[i]? = some (.int k l[i]) := by
      rw [ht]; simp [hi]
    rw [List.getElem?_take, if_pos (by omega)] at e1
    simpa using e1

set_option maxRecDepth 100000 in
set_option maxHeartbeats 8000000 in
theorem drawPlays_walk (a0 : Int) (a1 : Option Addr) (len1 cap1 : Nat) (z1 : List Int) (a2 : Option Addr) (cap2 : Nat) (m : List (Nat × Int)) (w : World) (w0 : (Lit.int .u64 a0).wf = true) (w1 : IsRow .u64 w a1 len1 cap1 z1) (w2 : IsActs w a2 m) :
    Calls Try.prog 6 #[.int .u64 a0, .slice a1 len1 cap1, .slice a2 m.length cap2] w fun e w' => e = .returned (.bool true) ∧ Below w.heap.size w w' := by
  obtain ⟨s, rfl, hs⟩ := nat_of_u64 w0
  obtain ⟨l, hlen, hb, hrd, hrow, hmax⟩ := arg_u64 w1
  obtain ⟨hmax2, hacts⟩ := w2
  clear w0 w1 hrow
  subst hlen
  unfold maxLen at hmax hmax2
  have HB := Lib.hid hb
  have HACTS := Lib.hid hacts
  have HRD := Lib.hid hrd
  by_cases hbig : 2000 < l.length
  · clear hb hrd hacts
    go_enter Try.func6, Try.ntmps6
    go_wp2_with fail
    refine (awake_any _).mono ?_
    rintro e w1 ⟨rfl, hc1⟩
    go_wp2
    go_ret
    exact ⟨rfl, hc1.below (Nat.le_refl _) (by simp)⟩
  by_cases hbig2 : 200 < m.length
  · have hd1 : decide ((2000 : Int) < (l.length : Int)) = false := by simp; omega
    clear hb hrd hacts
    go_enter Try.func6, Try.ntmps6
    go_wp2_with fail
    refine (awake_any _).mono ?_
    rintro e w1 ⟨rfl, hc1⟩
    go_wp2
    go_ret
    exact ⟨rfl, hc1.below (Nat.le_refl _) (by simp)⟩
  · have hd1 : decide (2000 < l.length) = false := by simp; omega
    have hd2 : decide (200 < m.length) = false := by simp; omega
    obtain ⟨i0, hi0, hz0, hz1, hz2⟩ := info_parts Try.elem64
    have hown := owns_empty w 22
    have hsrc : (a1 = none → cap1 = 0) ∧ ((l.map fun (x : Nat) => Value.int .u64 x) ≠ [] → a1 ≠ none) ∧ ∀ p, a1 = some p → ∀ j u, (l.map fun (x : Nat) => Value.int .u64 x)[j]? = some u → (w.alloc (.cells #[] 22)).cell? (p.add j) = some u := by
      obtain ⟨a, c, hv, h1, h2, h3⟩ := hrd
      injection hv with e1 e2 e3
      subst e1; subst e3
      refine ⟨h1, fun hh => h2 (by intro e; subst e; exact hh rfl), fun p hp => news_int fun i h => ?_⟩
      have hcl := h3 p hp i h
      rw [World.cell?_alloc_lt _ _ _ (World.block_lt_of_cell? _ _ hcl)]
      exact hcl
    have HSRC := Lib.hid hsrc
    clear hb hrd hacts hsrc
    go_enter Try.func6, Try.ntmps6
    go_wp2_with (at_builtin; refine wpList_append_src rfl _ _ 28 rfl w.heap.size 22 i0 (.int .u64 0) 1 8 Try.underlying28 hi0 hz0 hz1 hz2 rfl (by decide) (.slice (some ⟨w.heap.size, 0, none⟩) 0 0) 0 [] rfl hown a1 l.length cap1 (l.map fun (x : Nat) => Value.int .u64 x) rfl HSRC.out.1 HSRC.out.2.1 (by simp) HSRC.out.2.2 news_one (by unfold maxLen; omega) (by omega) (by simp) ?_; intro v1 w1 hown1 hg1 hnn; clear hown)
    have hrd1 : Reads .u64 w1 v1 l := reads_of_owns' (n := 0 + l.length) (by omega) hown1
    obtain ⟨g, cap, hv1, hgw, hgl, cur0, hcur0, hcs0⟩ : ∃ g cap, v1 = .slice (some ⟨g, 0, none⟩) l.length cap ∧ w.heap.size ≤ g ∧ g < w1.heap.size ∧ ∃ cur, w1.heap[g]? = some (.cells cur 22 (0, 0)) ∧ cur.size = cap ∧ l.length ≤ cap := by
      obtain ⟨_, h⟩ := hown1
      rcases h with ⟨hv, _⟩ | ⟨g, cap, cur, hv, hg, hh, hle, _, hsz, _⟩
      · exact absurd hv (hnn (by simp))
      · exact ⟨g, cap, by rw [hv, Nat.zero_add], hg, lt_of_block hh, cur, hh, by omega, by omega⟩
    have hC1 : Chg [] w w1 := ((Chg.refl [] w).alloc _).grown hg1 (fun k hk => by injection hk with hk; subst hk; exact .inr (Nat.le_refl _))
    have HRD1 := Lib.hid hrd1
    have HCUR := Lib.hid hcur0
    clear hrd1 hown1 hnn hg1 HSRC hcur0
    rw [hv1] at HRD1 ⊢
    clear hv1
    go_wp2_with fail
    refine (new_fresh s _ l _ (by omega) HB.out HRD1.out).mono ?_
    rintro e w2 ⟨b, rfl, hb2, ht2, hc2, hst2⟩
    have HST2 := Lib.hid hst2
    clear hst2
    go_wp2_with fail
    refine (rnew_any s _ l _ hs (by omega) HB.out (HRD.out.chg (hC1.trans hc2) (by simp))).mono ?_
    rintro e w3 ⟨c, rfl, hb3, hx3, hc3, hst3⟩
    have HST3 := Lib.hid hst3
    clear hst3
    have hcur3 : w3.heap[g]? = some (.cells cur0 22 (0, 0)) := hc3.keep (hc2.keep HCUR.out (by simp)) (by simp)
    have hC3 : Chg [] w w3 := (hC1.trans hc2).trans hc3
    have hbc : b ≠ c := by have := ht2.lt; omega
    have hwb : w.heap.size ≤ b := by have := hC1.size; omega
    have hwc : w.heap.size ≤ c := by have := (hC1.trans hc2).size; omega
    have hg2 : g < w2.heap.size := by have := hc2.size; omega
    have HCUR3 := Lib.hid hcur3
    clear hb2 hb3 ht2 HCUR hcur3 HRD HRD1
    go_wp2_with fail
    go_loopw [10] (PlaysRel1 l.length g cap w3) (fun i _ => l.length - (intOf i).toNat)
    case atStart => exact ⟨0, cur0, Nat.zero_le _, rfl, HCUR3.out, hcs0.1, Chg.refl _ _⟩
    case round =>
      obtain ⟨k, cur, hk, rfl, hcur, hsz, hck⟩ := hrel
      by_cases hlt : k < l.length
      · obtain ⟨y, hy⟩ : ∃ y, cur[k]? = some y := ⟨cur[k]'(by omega), by simp⟩
        have c1 : wr.cell? ⟨g, k, none⟩ = some y := (cell_of hcur).trans hy
        have f1 : wr.frozen? ⟨g, k, none⟩ = false := free_of hcur
        have HCK := Lib.hid hcur
        have HSZ := Lib.hid hsz
        clear hcur hsz hy
        go_wp2
        go_roundw
        case rel => exact ⟨k + 1, _, by omega, by go_num, heap_set HCK.out _, by simpa using HSZ.out, hck.trans (Chg.set1 _ _ _ _)⟩
        case measure => simp [intOf]; omega
      · have ht4 : TapeAt wr b s l 0 := HST2.out [g] wr ((hc3.mono (by simp)).trans hck) (by simpa using hgl)
        have hx4 : RTape wr c s l 0 := HST3.out [g] wr hck (by simpa using hg2)
        have hC4 : Chg [] w wr := hC3.trans_new hck (by simp; omega)
        obtain ⟨w4, hw4⟩ : ∃ w4, w4 = wr := ⟨_, rfl⟩
        rw [← hw4] at ht4 hx4 hC4 ⊢
        clear hw4 hcur hck HST2 HST3 HCUR3 hC3 hc2 hc3 hx3 hC1 hgl hg2 hsz
        go_wp2_with fail
        go_loopw [8, 9, 11] (PlaysRel2 s l m.length w) (fun _ _ i _ => m.length - (intOf i).toNat)
        case atStart => exact ⟨0, 0, b, c, Nat.zero_le _, rfl, rfl, rfl, by omega, ht4, hx4, hC4, hwb, hwc, hbc⟩
        case round =>
          clear ht4 hx4 hC4 hwb hwc hbc
          obtain ⟨k, u, b, c, hk, rfl, rfl, rfl, hu, htk, hxk, hCk, hwb, hwc, hbc⟩ := hrel
          by_cases hlt : k < m.length
          · obtain ⟨r, o, ha, hr, hcW, hcN, hWb, hNb⟩ := HACTS.out k hlt
            obtain ⟨W, hW⟩ : ∃ W, W = m[k].1 := ⟨_, rfl⟩
            obtain ⟨N, hN⟩ : ∃ N, N = m[k].2 := ⟨_, rfl⟩
            rw [← hW] at hcW hWb
            rw [← hN] at hcN hNb
            clear hW hN
            subst ha
            have d1 : wr.cell? ⟨r, o + k * 2, none⟩ = some (.int .u8 W) := hCk.cell hcW (by simp)
            have d2 : wr.cell? ⟨r, o + k * 2 + 1, none⟩ = some (.int .i64 N) := hCk.cell hcN (by simp)
            have hrb : r ≠ b := by omega
            have hrc : r ≠ c := by omega
            have hblt : (k : Int) < (m.length : Int) := by omega
            clear hcW hcN
            by_cases hW0 : W = 0
            · subst hW0
              go_wp2_with fail
              refine (next_any b s l u _ htk (by omega)).mono ?_
              rintro e w5 ⟨rfl, ht5, hc5⟩
              have hx5 := hxk.other htk hc5 (Ne.symm hbc)
              go_wp2_with fail
              refine (rnext_any c s l u _ hx5 (by omega)).mono ?_
              rintro e w6 ⟨rfl, hx6, hc6⟩
              have ht6 := ht5.otherR hx5 hc6 hbc
              have hC6 : Chg [] w w6 := (hCk.trans_new hc5 (by simp; omega)).trans_new hc6 (by simp; omega)
              clear d1 d2 hc5 hc6 hx5 ht5 htk hxk hCk
              have hcN := hx6.cellN
              go_wp2_with fail
              go_quiet ((go_at_call 13; refine Calls.quiet_of_same ((used_any b s l (u + 1) _ ?_).mono fun e w' h => ⟨h.1, h.2.symm⟩); exact ht6))
              go_wp2
              go_roundw
              case rel => exact ⟨k + 1, (u + 1), b, c, by omega, by go_num, rfl, rfl, by omega, ht6, hx6, hC6.drewN _, hwb, hwc, hbc⟩
              case measure => simp [intOf]; omega
            have e0 : ((W : Int) == 0) = false := by simp; omega
            by_cases hW1 : W = 1
            · subst hW1
              by_cases hN1 : N < 1
              · go_wp2_with fail
                go_region_held3 (fun w' => w'.cell? ⟨r, o + k * 2 + 1, none⟩ = some (.int .i64 N)) (first | exact d2 | assumption) (first | (go_at_call 17; refine (below_less _ N _ ?_).mono ?_; exact hN1; rintro e w5 ⟨rfl, rfl⟩) | (go_at_call 18; refine (rbelow_less _ N _ ?_).mono ?_; exact hN1; rintro e w5 ⟨rfl, rfl⟩))
                clear d1 d2
                have ht6 : TapeAt wr.drew b s l u := htk
                have hx6 : RTape wr.drew c s l u := hxk
                have hC6 : Chg [] w wr.drew := hCk.drew
                obtain ⟨w6, hw6⟩ : ∃ w6, w6 = wr.drew := ⟨_, rfl⟩
                rw [← hw6] at ht6 hx6 hC6 ⊢
                clear hw6 htk hxk hCk
                have hcN := hx6.cellN
                go_wp2_with fail
                go_quiet ((go_at_call 13; refine Calls.quiet_of_same ((used_any b s l u _ ?_).mono fun e w' h => ⟨h.1, h.2.symm⟩); exact ht6))
                go_wp2
                go_roundw
                case rel => exact ⟨k + 1, u, b, c, by omega, by go_num, rfl, rfl, by omega, ht6, hx6, hC6.drewN _, hwb, hwc, hbc⟩
                case measure => simp [intOf]; omega
              · obtain ⟨zn, rfl⟩ : ∃ zn : Nat, N = zn := ⟨N.toNat, by omega⟩
                obtain ⟨q, hq⟩ : ∃ q, q = drawN s l u % zn := ⟨_, rfl⟩
                have HQ := Lib.hid hq
                clear hq
                go_wp2_with fail
                go_region_held3 (fun w' => w'.cell? ⟨r, o + k * 2 + 1, none⟩ = some (.int .i64 (zn : Int))) (first | exact d2 | assumption) (first | (go_at_call 17; refine (below_at b s l u zn q _ _ ?_ ?_ ?_ ?_ ?_ ?_).mono ?_; exact htk; omega; rfl; exact HQ.out; omega; omega; rintro e w5 ⟨rfl, ht5, hc5⟩; replace hc5 := hc5.undrew; have hx5 := hxk.other htk hc5 (Ne.symm hbc); have d5 : w5.cell? ⟨r, o + k * 2 + 1, none⟩ = some (.int .i64 (zn : Int)) := hc5.cell d2 (by simpa using hrb)) | (go_at_call 18; refine (rbelow_at c s l u zn q _ _ ?_ ?_ ?_ ?_ ?_ ?_).mono ?_; exact hx5; omega; rfl; exact HQ.out; omega; omega; rintro e w6 ⟨rfl, hx6, hc6⟩; have ht6 := ht5.otherR hx5 hc6 hbc; have d6 : w6.cell? ⟨r, o + k * 2 + 1, none⟩ = some (.int .i64 (zn : Int)) := hc6.cell d5 (by simpa using hrc)))
                have hC6 : Chg [] w w6 := (hCk.trans_new hc5 (by simp; omega)).trans_new hc6 (by simp; omega)
                clear d1 d2 d5 d6 hc5 hc6 hx5 ht5 htk hxk hCk
                have hcN := hx6.cellN
                go_wp2_with fail
                go_quiet ((go_at_call 13; refine Calls.quiet_of_same ((used_any b s l (u + 1) _ ?_).mono fun e w' h => ⟨h.1, h.2.symm⟩); exact ht6))
                go_wp2
                go_roundw
                case rel => exact ⟨k + 1, (u + 1), b, c, by omega, by go_num, rfl, rfl, by omega, ht6, hx6, hC6.drewN _, hwb, hwc, hbc⟩
                case measure => simp [intOf]; omega
            have e1 : ((W : Int) == 1) = false := by simp; omega
            by_cases hW2 : W = 2
            · subst hW2
              by_cases hNr : N < 1 ∨ 256 < N
              · go_wp2_with fail
                go_region_held3 (fun w' => w'.cell? ⟨r, o + k * 2 + 1, none⟩ = some (.int .i64 N)) (first | exact d2 | assumption) (first | (go_at_call 14; refine (shuffle_out _ N _ ?_).mono ?_; exact hNr; rintro e w5 ⟨rfl, rfl⟩) | (go_at_call 19; refine (rshuffle_out _ N _ ?_).mono ?_; exact hNr; rintro e w5 ⟨rfl, rfl⟩))
                go_wp2_with fail
                refine (ints_any _ _ [] [] _ Row.nil Row.nil (by decide) (by decide)).mono ?_
                rintro e w5 ⟨rfl, n5, hw5⟩
                have ht6 : TapeAt w5 b s l u := by rw [hw5]; exact htk
                have hx6 : RTape w5 c s l u := by rw [hw5]; exact hxk
                have hC6 : Chg [] w w5 := by rw [hw5]; exact hCk.drew.drewN _
                obtain ⟨w6, hw6⟩ : ∃ w6, w6 = w5 := ⟨_, rfl⟩
                rw [← hw6] at ht6 hx6 hC6 ⊢
                clear hw5 hw6 htk hxk hCk d1 d2
                go_wp2_with fail
                go_loopw [14] (fun i wr => i = .int .i64 0 ∧ wr = w6) (fun _ _ => 0)
                case atStart => exact ⟨rfl, rfl⟩
                case round =>
                  obtain ⟨rfl, rfl⟩ := hrel
                  have hcN := hx6.cellN
                  go_wp2_with fail
                  go_quiet ((go_at_call 13; refine Calls.quiet_of_same ((used_any b s l u _ ?_).mono fun e w' h => ⟨h.1, h.2.symm⟩); exact ht6))
                  go_wp2
                  go_roundw
                  case rel => exact ⟨k + 1, u, b, c, by omega, by go_num, rfl, rfl, by omega, ht6, hx6, hC6.drewN _, hwb, hwc, hbc⟩
                  case measure => simp [intOf]; omega
              · obtain ⟨zn, rfl⟩ : ∃ zn : Nat, N = zn := ⟨N.toNat, by omega⟩
                go_wp2_with fail
                go_region_held3 (fun w' => w'.cell? ⟨r, o + k * 2 + 1, none⟩ = some (.int .i64 (zn : Int))) (first | exact d2 | assumption) (first | (go_at_call 14; refine (shuffle_any b s l u zn _ ?_ ?_ ?_ ?_).mono ?_; exact htk; omega; omega; omega; rintro e w5 ⟨rfl, hr5, ht5, hc5⟩; replace hc5 := hc5.undrew; have hx5 := hxk.other htk hc5 (Ne.symm hbc); have d5 : w5.cell? ⟨r, o + k * 2 + 1, none⟩ = some (.int .i64 (zn : Int)) := hc5.cell d2 (by simpa using hrb); have HR5 := Lib.hid hr5; clear hr5) | (go_at_call 19; refine (rshuffle_any c s l u zn _ ?_ ?_ ?_ ?_).mono ?_; exact hx5; omega; omega; omega; rintro e w6 ⟨rfl, hr6, hx6, hc6⟩; have ht6 := ht5.otherR hx5 hc6 hbc; have d6 : w6.cell? ⟨r, o + k * 2 + 1, none⟩ = some (.int .i64 (zn : Int)) := hc6.cell d5 (by simpa using hrc); have HR6 := Lib.hid hr6; clear hr6))
                obtain ⟨L, hL⟩ : ∃ L, L = shufN (drawN s l) u zn := ⟨_, rfl⟩
                have hLl : L.length = zn := by rw [hL]; exact shufN_length _ _ _
                have hr5 : w5.heap[wr.heap.size]? = some (.cells (rowI .i64 L) 3 (0, 0)) := by rw [hL]; exact HR5.out
                have hr6 : w6.heap[w5.heap.size]? = some (.cells (rowI .i64 L) 3 (0, 0)) := by rw [hL]; exact HR6.out
                have hr56 : w6.heap[wr.heap.size]? = some (.cells (rowI .i64 L) 3 (0, 0)) := hc6.keep hr5 (by have := hxk.lt; simp; omega)
                have R1 : Row .i64 w6 (.slice (some ⟨wr.heap.size, 0, none⟩) zn zn) L := by have := Row.of_heap (c := zn) hr56; rwa [hLl] at this
                have R2 : Row .i64 w6 (.slice (some ⟨w5.heap.size, 0, none⟩) zn zn) L := by have := Row.of_heap (c := zn) hr6; rwa [hLl] at this
                have hC6 : Chg [] w w6 := (hCk.trans_new hc5 (by simp; omega)).trans_new hc6 (by simp; omega)
                have hgb : b ≠ wr.heap.size := by have := htk.lt; omega
                have hgc : c ≠ wr.heap.size := by have := hxk.lt; omega
                have hgw : w.heap.size ≤ wr.heap.size := hCk.size
                have HR56 := Lib.hid hr56
                have HLL := Lib.hid hLl
                clear hL hLl hr5 hr6 hr56 HR5 HR6 d1 d2 d5 d6 hc5 hc6 hx5 ht5 htk hxk hCk
                go_wp2_with fail
                refine (ints_any _ _ L L _ R1 R2 (by rw [HLL.out]; omega) (by rw [HLL.out]; omega)).mono ?_
                rintro e w7 ⟨rfl, n7, hw7⟩
                have hr7 : w7.heap[wr.heap.size]? = some (.cells (rowI .i64 L) 3 (0, 0)) := by rw [hw7]; exact HR56.out
                have ht7 : TapeAt w7 b s l (u + (zn - 1)) := by rw [hw7]; exact ht6
                have hx7 : RTape w7 c s l (u + (zn - 1)) := by rw [hw7]; exact hx6
                have hC7 : Chg [] w w7 := by rw [hw7]; exact hC6.drewN _
                obtain ⟨g7, hg7⟩ : ∃ g7, g7 = wr.heap.size := ⟨_, rfl⟩
                rw [← hg7] at hr7 hgb hgc hgw ⊢
                have HR7 := Lib.hid hr7
                have hsz7 : Hid ((rowI .i64 L).size = zn) := by show _ = _; rw [rowI_size]; exact HLL.out
                clear hr7 hg7 hw7 HR56 HLL R1 R2 ht6 hx6 hC6
                go_wp2_with fail
                go_loopw [14] (PlaysRel3 zn g7 w7) (fun i _ => zn - (intOf i).toNat)
                case atStart => exact ⟨0, _, Nat.zero_le _, rfl, HR7.out, hsz7.out, Chg.refl _ _⟩
                case round =>
                  obtain ⟨j, cur, hj, rfl, hcur, hsz, hck⟩ := hrel
                  by_cases hlt3 : j < zn
                  · obtain ⟨y, hy⟩ : ∃ y, cur[j]? = some y := ⟨cur[j]'(by omega), by simp⟩
                    have c1 : wr.cell? ⟨g7, j, none⟩ = some y := (cell_of hcur).trans hy
                    have f1 : wr.frozen? ⟨g7, j, none⟩ = false := free_of hcur
                    have HCK := Lib.hid hcur
                    have HSZ := Lib.hid hsz
                    clear hcur hsz hy
                    go_wp2
                    go_roundw
                    case rel => exact ⟨j + 1, _, by omega, by go_num, heap_set HCK.out _, by simpa using HSZ.out, hck.trans (Chg.set1 _ _ _ _)⟩
                    case measure => simp [intOf]; omega
                  · have hown7 : ∀ k ∈ [g7], ∃ c f t, w7.heap[k]? = some (.cells c t f) ∧ t ≠ 22 ∧ t ≠ 28 := by
                      intro k hk; simp at hk; subst hk; exact ⟨_, _, _, HR7.out, by decide, by decide⟩
                    have ht8 : TapeAt wr b s l (u + (zn - 1)) := ht7.chg hck (by simpa using hgb) hown7
                    have hx8 : RTape wr c s l (u + (zn - 1)) := hx7.chg hck (by simpa using hgc) (fun k hk => by obtain ⟨c, f, t, h1, h2, _⟩ := hown7 k hk; exact ⟨c, f, t, h1, h2⟩)
                    have hC8 : Chg [] w wr := hC7.trans_new hck (by simpa using hgw)
                    clear hown7 hcur hsz hck HR7 hsz7 ht7 hx7 hC7
                    have hcN := hx8.cellN
                    go_wp2_with fail
                    go_quiet ((go_at_call 13; refine Calls.quiet_of_same ((used_any b s l (u + (zn - 1)) _ ?_).mono fun e w' h => ⟨h.1, h.2.symm⟩); exact ht8))
                    go_wp2
                    go_roundw
                    case rel => exact ⟨k + 1, (u + (zn - 1)), b, c, by omega, by go_num, rfl, rfl, by omega, ht8, hx8, hC8.drewN _, hwb, hwc, hbc⟩
                    case measure => simp [intOf]; omega
            have e2 : ((W : Int) == 2) = false := by simp; omega
            go_wp2_with fail
            refine (copy_any b s l u _ htk).mono ?_
            rintro e w5 ⟨rfl, hn5, ht5, hc5⟩
            have hx5 : RTape w5 c s l u := hxk.chg hc5 (by simp) (by simp)
            obtain ⟨n, hn⟩ : ∃ n, n = wr.heap.size := ⟨_, rfl⟩
            have hbn : b ≠ n := by have := htk.lt; omega
            have hnc : c ≠ n := by have := hxk.lt; omega
            have hwn : w.heap.size ≤ n := by have := hCk.size; omega
            rw [← hn] at hn5 ⊢
            have hC5 : Chg [] w w5 := hCk.trans hc5
            clear hn hc5 htk hxk hCk d1 d2
            go_wp2_with fail
            refine (next_any b s l u _ ht5 (by omega)).mono ?_
            rintro e w6 ⟨rfl, ht6, hc6⟩
            have hx6 := hx5.other ht5 hc6 (Ne.symm hbc)
            have hn6 := hn5.other ht5 hc6 (Ne.symm hbn)
            have hC6 : Chg [] w w6 := hC5.trans_new hc6 (by simp; omega)
            clear hc6 hx5 hn5 ht5 hC5
            go_wp2_with fail
            refine (shuffle_any b s l (u + 1) 3 _ ht6 (by omega) (by decide) (by decide)).mono ?_
            rintro e w7 ⟨rfl, _, ht7, hc7⟩
            have hx7 := hx6.other ht6 hc7 (Ne.symm hbc)
            have hn7 := hn6.other ht6 hc7 (Ne.symm hbn)
            have hC7 : Chg [] w w7 := hC6.trans_new hc7 (by simp; omega)
            clear hc7 hx6 hn6 ht6 hC6 ht7
            go_wp2_with fail
            refine (rcopy_any c s l u _ hx7).mono ?_
            rintro e w8 ⟨rfl, hx8, hc8⟩
            have ht8 : TapeAt w8 n s l u := hn7.chg hc8 (by simp) (by simp)
            obtain ⟨c8, hc8e⟩ : ∃ n, n = w7.heap.size := ⟨_, rfl⟩
            have hnc8 : n ≠ c8 := by have := hn7.lt; omega
            have hwc8 : w.heap.size ≤ c8 := by have := hC7.size; omega
            rw [← hc8e] at hx8 ⊢
            have hC8 : Chg [] w w8 := hC7.trans hc8
            clear hc8e hc8 hx7 hn7 hC7
            have hcN := hx8.cellN
            go_wp2_with fail
            go_quiet ((go_at_call 13; refine Calls.quiet_of_same ((used_any n s l u _ ?_).mono fun e w' h => ⟨h.1, h.2.symm⟩); exact ht8))
            go_wp2
            go_roundw
            case rel => exact ⟨k + 1, u, n, c8, by omega, by go_num, rfl, rfl, by omega, ht8, hx8, hC8.drewN _, hwn, hwc8, hnc8⟩
            case measure => simp [intOf]; omega
          · go_wp2_with fail
            refine (next_any b s l u _ htk (by omega)).mono ?_
            rintro e w5 ⟨rfl, ht5, hc5⟩
            have hx5 := hxk.other htk hc5 (Ne.symm hbc)
            go_wp2_with fail
            refine (rnext_any c s l u _ hx5 (by omega)).mono ?_
            rintro e w6 ⟨rfl, hx6, hc6⟩
            have hC6 : Chg [] w w6 := (hCk.trans_new hc5 (by simp; omega)).trans_new hc6 (by simp; omega)
            go_wp2_with fail
            refine (awake_any _).mono ?_
            rintro e w7 ⟨rfl, hc7⟩
            go_wp2
            go_ret
            exact ⟨rfl, (hC6.trans hc7).below (Nat.le_refl _) (by simp)⟩

end Go.Proofs.Yteoenajklllakaa
