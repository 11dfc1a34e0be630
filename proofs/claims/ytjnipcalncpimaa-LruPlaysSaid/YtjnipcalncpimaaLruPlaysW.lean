/- The walk of LruPlays. -/
import Derived.Test.YtjnipcalncpimaaAlike15
namespace Go.Proofs.Ytjnipcalncpimaa
open Go.RowKit

theorem dropZ_nat (row : List Nat) (x : Nat) : dropZ row (x : Int) = dropL row x := by
  unfold dropZ dropL
  congr 1
  funext y
  simp; omega
theorem dropZ_out (n : Nat) (row : List Nat) (x : Int) (hlt : ∀ y ∈ row, y < n) (hx : isSlot n x = false) : dropZ row x = row := by
  refine List.filter_eq_self.2 fun y hy => ?_
  have := hlt y hy
  simp only [ne_eq, decide_eq_true_eq]
  intro e
  have : isSlot n x = true := isSlot_iff.2 ⟨by omega, by omega⟩
  rw [hx] at this
  cases this
theorem drop_less (row : List Nat) (x : Nat) : decide ((dropL row x).length < row.length) = decide (x ∈ row) := by
  rw [Bool.eq_iff_iff]
  simp only [decide_eq_true_eq]
  unfold dropL
  constructor
  · intro h
    refine Classical.byContradiction fun hn => ?_
    rw [List.filter_eq_self.2 (fun y hy => by simp; intro e; exact hn (e ▸ hy))] at h
    omega
  · intro h
    exact List.length_filter_lt_length_iff_exists.2 ⟨x, h, by simp⟩
theorem useL_len (row : List Nat) (x n : Nat) (hnd : row.Nodup) (hlt : ∀ y ∈ row, y < n) (hx : x < n) (hn : n ≤ 256) : (dropL row x).length < 256 := by
  have h1 : (x :: dropL row x).Nodup := List.nodup_cons.2 ⟨by simp [dropL], hnd.filter _⟩
  have h2 := nodup_le n (x :: dropL row x) h1 (by
    intro y hy
    rcases List.mem_cons.1 hy with hh | hh
    · omega
    · exact hlt y (List.mem_filter.1 hh).1)
  simp at h2
  omega

theorem ruse_at (base q n : Nat) (x : Int) (row : List Nat) (w : World) (h : RefL base w q n row) (hbase : base ≤ w.heap.size) (hnd : row.Nodup) (hlt : ∀ y ∈ row, y < n) (hn : n ≤ 256) :
    Calls Try.prog 22 #[.pointer (some ⟨q, 0, none⟩), .int .i64 x] w fun e w' => e = .returned (.int .i64 (errI n x : Nat)) ∧ RefL base w' q n (useI n row x) ∧ Chg [q] w w' := by
  by_cases hs : isSlot n x = true
  · have hx := isSlot_iff.1 hs
    obtain ⟨y, rfl⟩ : ∃ y : Nat, x = y := ⟨x.toNat, by omega⟩
    refine (ruse_in base q n y row w h hbase (by omega) (by rw [dropZ_nat]; exact useL_len row y n hnd hlt (by omega) hn)).mono ?_
    rintro e w' ⟨rfl, h1, h2⟩
    refine ⟨by simp [errI, hs], ?_, h2⟩
    unfold useI
    rw [if_pos hs]
    rw [dropZ_nat] at h1
    exact h1
  · have hx : x < 0 ∨ (n : Int) ≤ x := by
      rcases Int.lt_or_le x 0 with hh | hh
      · exact .inl hh
      · rcases Int.lt_or_le x n with h3 | h3
        · exact absurd (isSlot_iff.2 ⟨hh, h3⟩) hs
        · exact .inr h3
    refine (ruse_out base q n x row w h hx).mono ?_
    rintro e w' ⟨rfl, rfl⟩
    refine ⟨by simp [errI, hs], ?_, Chg.refl _ _⟩
    unfold useI; rw [if_neg hs]; exact h

theorem rdrop_at (base q n : Nat) (x : Int) (row : List Nat) (w : World) (h : RefL base w q n row) (hbase : base ≤ w.heap.size) (hlt : ∀ y ∈ row, y < n) :
    Calls Try.prog 23 #[.pointer (some ⟨q, 0, none⟩), .int .i64 x] w fun e w' => e = .returned (.bool (hasI n row x)) ∧ RefL base w' q n (dropI n row x) ∧ Chg [q] w w' := by
  by_cases hs : isSlot n x = true
  · have hx := isSlot_iff.1 hs
    obtain ⟨y, rfl⟩ : ∃ y : Nat, x = y := ⟨x.toNat, by omega⟩
    refine (rdrop_any base q n y (hasI n row y) row w h hbase (by rw [dropZ_nat, drop_less]; simp [hasI, hs])).mono ?_
    rintro e w' ⟨rfl, h1, _, h2⟩
    refine ⟨rfl, ?_, h2⟩
    unfold dropI
    rw [if_pos hs]
    rw [dropZ_nat] at h1
    exact h1
  · have hs' : isSlot n x = false := by simpa using hs
    refine (rdrop_any base q n x (hasI n row x) row w h hbase (by rw [dropZ_out n row x hlt hs']; simp [hasI, hs'])).mono ?_
    rintro e w' ⟨rfl, h1, _, h2⟩
    refine ⟨rfl, ?_, h2⟩
    unfold dropI
    rw [if_neg hs]
    rw [dropZ_out n row x hlt hs'] at h1
    exact h1

theorem rhas_at (base q n : Nat) (x : Int) (row : List Nat) (w : World) (h : RefL base w q n row) (hlt : ∀ y ∈ row, y < n) :
    Calls Try.prog 25 #[.pointer (some ⟨q, 0, none⟩), .int .i64 x] w fun e w' => e = .returned (.bool (hasI n row x)) ∧ w = w' := by
  refine rhas_any base q n x _ row w h ?_
  rw [Bool.eq_iff_iff, List.any_eq_true]
  unfold hasI
  simp only [Bool.and_eq_true, decide_eq_true_eq]
  constructor
  · rintro ⟨hs, hm⟩
    have := isSlot_iff.1 hs
    exact ⟨_, hm, by omega⟩
  · rintro ⟨y, hy, e⟩
    have := hlt y hy
    refine ⟨isSlot_iff.2 ⟨by omega, by omega⟩, ?_⟩
    rw [← e, Int.toNat_natCast]; exact hy

def LPlaysR (base n m : Nat) (w : World) (l x i : Value) (wr : World) : Prop :=
  ∃ (j b q : Nat) (row : List Nat), j ≤ m ∧ i = .int .i64 j ∧ l = .pointer (some ⟨b, 0, none⟩) ∧ x = .pointer (some ⟨q, 0, none⟩) ∧ LruAt wr b n row ∧ RefL base wr q n row ∧ Chg [] w wr ∧ w.heap.size ≤ b ∧ w.heap.size ≤ q ∧ b ≠ q

set_option maxRecDepth 100000 in
set_option maxHeartbeats 8000000 in
theorem lruPlays_walk (n : Int) (a : Option Addr) (cap : Nat) (acts : List (Nat × Int)) (w : World) (_hn : (Lit.int .i64 n).wf = true) (h : IsActs w a acts) :
    Calls Try.prog 8 #[.int .i64 n, .slice a acts.length cap] w fun e w' => e = .returned (.bool true) ∧ Below w.heap.size w w' := by
  obtain ⟨hmax, hacts⟩ := id h
  unfold maxLen at hmax
  have HACTS := Lib.hid hacts
  clear hacts h
  by_cases hbig : 1000 < acts.length
  · go_enter Try.func8, Try.ntmps8
    go_wp2_with fail
    refine (awake_any _).mono ?_
    rintro e w1 ⟨rfl, hc1⟩
    go_wp2
    go_ret
    exact ⟨rfl, hc1.below (Nat.le_refl _) (by simp)⟩
  have hd1 : decide (1000 < acts.length) = false := by simp; omega
  by_cases hnr : n < 0 ∨ 256 < n
  · have HNR := Lib.hid hnr
    clear hnr
    go_enter Try.func8, Try.ntmps8
    go_wp2_with fail
    refine (new_out n _ HNR.out).mono ?_
    rintro e w1 ⟨rfl, rfl⟩
    go_wp2_with fail
    refine (rnew_out n _ HNR.out).mono ?_
    rintro e w1 ⟨rfl, rfl⟩
    go_wp2_with fail
    refine (awake_any _).mono ?_
    rintro e w1 ⟨rfl, hc1⟩
    go_wp2
    go_ret
    exact ⟨rfl, hc1.below (Nat.le_refl _) (by simp)⟩
  obtain ⟨k, rfl⟩ : ∃ k : Nat, n = k := ⟨n.toNat, by omega⟩
  have hk : k ≤ 256 := by omega
  clear hnr
  go_enter Try.func8, Try.ntmps8
  go_wp2_with fail
  refine (new_in k _ hk).mono ?_
  rintro e w1 ⟨rfl, h1, hc1⟩
  obtain ⟨b, hb⟩ : ∃ b, b = w.heap.size := ⟨_, rfl⟩
  have hwb : w.heap.size ≤ b := by omega
  rw [← hb] at h1 ⊢
  clear hb
  go_wp2_with fail
  refine (rnew_in w.heap.size k _ hk).mono ?_
  rintro e w2 ⟨rfl, x2, hc2⟩
  obtain ⟨q, hq⟩ : ∃ q, q = w1.heap.size := ⟨_, rfl⟩
  have hwq : w.heap.size ≤ q := by have := hc1.size; omega
  have hbq : b ≠ q := by have := h1.lt; omega
  rw [← hq] at x2 ⊢
  have h2 := h1.chg hc2 (by simp)
  have hC2 : Chg [] w w2 := hc1.trans hc2
  clear hq h1 hc1 hc2
  go_wp2_with fail
  go_loopw [5, 7, 9] (LPlaysR w.heap.size k acts.length w) (fun _ _ i _ => acts.length - (intOf i).toNat)
  case atStart => exact ⟨0, b, q, [], Nat.zero_le _, rfl, rfl, rfl, h2, x2, hC2, hwb, hwq, hbq⟩
  case round =>
    clear h2 x2 hC2 hwb hwq hbq
    obtain ⟨j, b, q, row, hj, rfl, rfl, rfl, hl, hx, hC, hwb, hwq, hbq⟩ := hrel
    by_cases hlt : j < acts.length
    · obtain ⟨r, o, ha, hr, hcW, hcN, hWb, hNb⟩ := HACTS.out j hlt
      obtain ⟨W, hW⟩ : ∃ W, W = acts[j].1 := ⟨_, rfl⟩
      obtain ⟨N, hN⟩ : ∃ N, N = acts[j].2 := ⟨_, rfl⟩
      rw [← hW] at hcW hWb
      rw [← hN] at hcN hNb
      clear hW hN
      subst ha
      have d1 : wr.cell? ⟨r, o + j * 2, none⟩ = some (.int .u8 W) := hC.cell hcW (by simp)
      have d2 : wr.cell? ⟨r, o + j * 2 + 1, none⟩ = some (.int .i64 N) := hC.cell hcN (by simp)
      clear hcW hcN
      by_cases hW0 : W = 0
      · subst hW0
        go_wp2_with fail
        obtain ⟨p, hp⟩ : ∃ p, p = wr.heap.size := ⟨_, rfl⟩
        have hpb : b ≠ p := by have := hl.lt; omega
        have hpq : q ≠ p := by have := hx.lt; omega
        rw [← hp]
        refine wp_abs ?_
        intro w0 hw0
        have e1 : w0.cell? ⟨p, 1, none⟩ = some (.int .i64 N) := by rw [hw0, hp]; exact cell_of (heap_new _ _)
        have l0 : LruAt w0 b k row := by rw [hw0]; exact hl.chg (S := []) ((Chg.refl _ _).alloc _) (by simp)
        have x0 : RefL w.heap.size w0 q k row := by rw [hw0]; exact hx.chg (S := []) ((Chg.refl _ _).alloc _) (by simp) (by simp)
        have hC0 : Chg [] w w0 := by rw [hw0]; exact hC.alloc _
        clear hw0 hp d1 d2 hl hx hC
        have hnd0 := l0.nodup
        have hlt0 := l0.2.1
        have HND := Lib.hid hnd0
        have HLT := Lib.hid hlt0
        clear hnd0 hlt0
        have hbs : w.heap.size ≤ w0.heap.size := hC0.size
        go_region_held3 (fun w' => w'.cell? ⟨p, 1, none⟩ = some (.int .i64 N)) (first | exact e1 | assumption) (first | (go_at_call 16; refine (use_at b k N row _ ?_).mono ?_; exact l0; rintro e9 w5 ⟨rfl, l5, hc5⟩; replace hc5 := hc5.undrew; have x5 := x0.chg hc5 (by simpa using Ne.symm hbq) (fun k hk => (by simp at hk; subst hk; exact l0.own)); have e5 : w5.cell? ⟨p, 1, none⟩ = some (.int .i64 N) := hc5.cell e1 (by simpa using Ne.symm hpb)) | (go_at_call 22; refine (ruse_at w.heap.size q k N row _ ?_ ?_ ?_ ?_ ?_).mono ?_; exact x5; exact Nat.le_trans hbs hc5.size; exact HND.out; exact HLT.out; exact hk; rintro e9 w6 ⟨rfl, x6, hc6⟩; have l6 := l5.chg hc6 (by simpa using hbq); have e6 : w6.cell? ⟨p, 1, none⟩ = some (.int .i64 N) := hc6.cell e5 (by simpa using Ne.symm hpq)))
        have hC6 : Chg [] w w6 := (hC0.trans_new hc5 (by simpa using hwb)).trans_new hc6 (by simpa using hwq)
        clear e1 e5 hc5 hc6 x5 l5 l0 x0 hC0 HND HLT
        go_wp2_with fail
        have hltT := l6.2.1
        have HLTT := Lib.hid hltT
        clear hltT
        go_region_held3 (fun w' => w'.cell? ⟨p, 1, none⟩ = some (.int .i64 N)) (first | exact e6 | assumption) (first | (go_at_call 12; refine (has_at b k N (useI k row N) _ ?_).mono ?_; exact l6; rintro e9 w9 ⟨rfl, rfl⟩) | (go_at_call 25; refine (rhas_at w.heap.size q k N (useI k row N) _ ?_ ?_).mono ?_; exact x6; exact HLTT.out; rintro e9 w9 ⟨rfl, rfl⟩) | (go_at_call 26; refine (alike_any w.heap.size b q k (useI k row N) _ ?_ ?_).mono ?_; exact l6; exact x6; rintro e9 w9 ⟨rfl, hc9⟩; replace hc9 := hc9.undrew; have e9' : w9.cell? ⟨p, 1, none⟩ = some (.int .i64 N) := hc9.cell e6 (by simp)))
        have l9 := l6.chg hc9 (by simp)
        have x9 := x6.chg hc9 (by simp) (by simp)
        have hC9 : Chg [] w w9 := hC6.trans hc9
        clear hc9 l6 x6 hC6
        go_wp2
        go_roundw
        case rel => exact ⟨j + 1, b, q, _, by omega, by go_num, rfl, rfl, l9, x9, hC9, hwb, hwq, hbq⟩
        case measure => simp [intOf] <;> omega
      have u0 : ((W : Int) == 0) = false := by simp; omega
      by_cases hW1 : W = 1
      · subst hW1
        go_wp2_with fail
        obtain ⟨p, hp⟩ : ∃ p, p = wr.heap.size := ⟨_, rfl⟩
        have hpb : b ≠ p := by have := hl.lt; omega
        have hpq : q ≠ p := by have := hx.lt; omega
        rw [← hp]
        refine wp_abs ?_
        intro w0 hw0
        have e1 : w0.cell? ⟨p, 1, none⟩ = some (.int .i64 N) := by rw [hw0, hp]; exact cell_of (heap_new _ _)
        have l0 : LruAt w0 b k row := by rw [hw0]; exact hl.chg (S := []) ((Chg.refl _ _).alloc _) (by simp)
        have x0 : RefL w.heap.size w0 q k row := by rw [hw0]; exact hx.chg (S := []) ((Chg.refl _ _).alloc _) (by simp) (by simp)
        have hC0 : Chg [] w w0 := by rw [hw0]; exact hC.alloc _
        clear hw0 hp d1 d2 hl hx hC
        have hlt0 := l0.2.1
        have HLT := Lib.hid hlt0
        clear hlt0
        have hbs : w.heap.size ≤ w0.heap.size := hC0.size
        go_region_held3 (fun w' => w'.cell? ⟨p, 1, none⟩ = some (.int .i64 N)) (first | exact e1 | assumption) (first | (go_at_call 14; refine (drop_at b k N row _ ?_).mono ?_; exact l0; rintro e9 w5 ⟨rfl, l5, hc5⟩; replace hc5 := hc5.undrew; have x5 := x0.chg hc5 (by simpa using Ne.symm hbq) (fun k hk => (by simp at hk; subst hk; exact l0.own)); have e5 : w5.cell? ⟨p, 1, none⟩ = some (.int .i64 N) := hc5.cell e1 (by simpa using Ne.symm hpb)) | (go_at_call 23; refine (rdrop_at w.heap.size q k N row _ ?_ ?_ ?_).mono ?_; exact x5; exact Nat.le_trans hbs hc5.size; exact HLT.out; rintro e9 w6 ⟨rfl, x6, hc6⟩; have l6 := l5.chg hc6 (by simpa using hbq); have e6 : w6.cell? ⟨p, 1, none⟩ = some (.int .i64 N) := hc6.cell e5 (by simpa using Ne.symm hpq)))
        have hC6 : Chg [] w w6 := (hC0.trans_new hc5 (by simpa using hwb)).trans_new hc6 (by simpa using hwq)
        clear e1 e5 hc5 hc6 x5 l5 l0 x0 hC0 HLT
        go_wp2_with fail
        have hltT := l6.2.1
        have HLTT := Lib.hid hltT
        clear hltT
        go_region_held3 (fun w' => w'.cell? ⟨p, 1, none⟩ = some (.int .i64 N)) (first | exact e6 | assumption) (first | (go_at_call 12; refine (has_at b k N (dropI k row N) _ ?_).mono ?_; exact l6; rintro e9 w9 ⟨rfl, rfl⟩) | (go_at_call 25; refine (rhas_at w.heap.size q k N (dropI k row N) _ ?_ ?_).mono ?_; exact x6; exact HLTT.out; rintro e9 w9 ⟨rfl, rfl⟩) | (go_at_call 26; refine (alike_any w.heap.size b q k (dropI k row N) _ ?_ ?_).mono ?_; exact l6; exact x6; rintro e9 w9 ⟨rfl, hc9⟩; replace hc9 := hc9.undrew; have e9' : w9.cell? ⟨p, 1, none⟩ = some (.int .i64 N) := hc9.cell e6 (by simp)))
        have l9 := l6.chg hc9 (by simp)
        have x9 := x6.chg hc9 (by simp) (by simp)
        have hC9 : Chg [] w w9 := hC6.trans hc9
        clear hc9 l6 x6 hC6
        go_wp2
        go_roundw
        case rel => exact ⟨j + 1, b, q, _, by omega, by go_num, rfl, rfl, l9, x9, hC9, hwb, hwq, hbq⟩
        case measure => simp [intOf] <;> omega
      have u1 : ((W : Int) == 1) = false := by simp; omega
      by_cases hW2 : W = 2
      · subst hW2
        go_wp2_with fail
        obtain ⟨p, hp⟩ : ∃ p, p = wr.heap.size := ⟨_, rfl⟩
        have hpb : b ≠ p := by have := hl.lt; omega
        have hpq : q ≠ p := by have := hx.lt; omega
        rw [← hp]
        refine calls_abs ?_
        intro w0 hw0
        have e1 : w0.cell? ⟨p, 1, none⟩ = some (.int .i64 N) := by rw [hw0, hp]; exact cell_of (heap_new _ _)
        have l0 : LruAt w0 b k row := by rw [hw0]; exact hl.chg (S := []) ((Chg.refl _ _).alloc _) (by simp)
        have x0 : RefL w.heap.size w0 q k row := by rw [hw0]; exact hx.chg (S := []) ((Chg.refl _ _).alloc _) (by simp) (by simp)
        have hC0 : Chg [] w w0 := by rw [hw0]; exact hC.alloc _
        clear hw0 hp d1 d2 hl hx hC
        refine (copy_any b k _ _ l0).mono ?_
        rintro e9 w3 ⟨rfl, c3, l3, hc3⟩
        obtain ⟨c, hc⟩ : ∃ c, c = w0.heap.size := ⟨_, rfl⟩
        have hbc : b ≠ c := by have := l0.lt; omega
        have hqc : q ≠ c := by have := x0.lt; omega
        have hwc : w.heap.size ≤ c := by have := hC0.size; omega
        rw [← hc] at c3 ⊢
        have x3 := x0.chg hc3 (by simp) (by simp)
        have e3 := hc3.cell e1 (by simp)
        have hC3 : Chg [] w w3 := hC0.trans hc3
        clear hc hc3 l0 x0 e1 hC0
        go_wp2_with fail
        refine (use_at b k N _ _ l3).mono ?_
        rintro e9 w4 ⟨rfl, l4, hc4⟩
        have c4 := c3.chg hc4 (by simpa using Ne.symm hbc)
        have x4 := x3.chg hc4 (by simpa using Ne.symm hbq) (fun k hk => (by simp at hk; subst hk; exact l3.own))
        have e4 := hc4.cell e3 (by simpa using Ne.symm hpb)
        have hC4 : Chg [] w w4 := hC3.trans_new hc4 (by simpa using hwb)
        clear hc4 l3 c3 x3 e3 hC3
        go_wp2_with fail
        refine (use_at b k 0 _ _ l4).mono ?_
        rintro e9 w5 ⟨rfl, l5, hc5⟩
        have c5 := c4.chg hc5 (by simpa using Ne.symm hbc)
        have x5 := x4.chg hc5 (by simpa using Ne.symm hbq) (fun k hk => (by simp at hk; subst hk; exact l4.own))
        have e5 := hc5.cell e4 (by simpa using Ne.symm hpb)
        have hC5 : Chg [] w w5 := hC4.trans_new hc5 (by simpa using hwb)
        clear hc5 l4 c4 x4 e4 hC4
        go_wp2_with fail
        refine (drop_at b k 1 _ _ l5).mono ?_
        rintro e9 w6 ⟨rfl, l6, hc6⟩
        have c6 := c5.chg hc6 (by simpa using Ne.symm hbc)
        have x6 := x5.chg hc6 (by simpa using Ne.symm hbq) (fun k hk => (by simp at hk; subst hk; exact l5.own))
        have e6 := hc6.cell e5 (by simpa using Ne.symm hpb)
        have hC6 : Chg [] w w6 := hC5.trans_new hc6 (by simpa using hwb)
        clear hc6 l5 c5 x5 e5 hC5 l6
        go_wp2_with fail
        refine (rcopy_any w.heap.size q k _ _ x6 hC6.size).mono ?_
        rintro e9 w7 ⟨q7, rfl, hq7, x7, hc7⟩
        have c7 := c6.chg hc7 (by simp)
        have e7 := hc7.cell e6 (by simp)
        have hC7 : Chg [] w w7 := hC6.trans hc7
        have hcq7 : c ≠ q7 := by have := c6.lt; omega
        have hwq7 : w.heap.size ≤ q7 := by have := hC6.size; omega
        clear hc7 c6 x6 e6 hC6 hq7
        go_wp2_with fail
        have hltT := c7.2.1
        have HLTT := Lib.hid hltT
        clear hltT
        go_region_held3 (fun w' => w'.cell? ⟨p, 1, none⟩ = some (.int .i64 N)) (first | exact e7 | assumption) (first | (go_at_call 12; refine (has_at c k N (row) _ ?_).mono ?_; exact c7; rintro e9 w9 ⟨rfl, rfl⟩) | (go_at_call 25; refine (rhas_at w.heap.size q7 k N (row) _ ?_ ?_).mono ?_; exact x7; exact HLTT.out; rintro e9 w9 ⟨rfl, rfl⟩) | (go_at_call 26; refine (alike_any w.heap.size c q7 k (row) _ ?_ ?_).mono ?_; exact c7; exact x7; rintro e9 w9 ⟨rfl, hc9⟩; replace hc9 := hc9.undrew; have e9' : w9.cell? ⟨p, 1, none⟩ = some (.int .i64 N) := hc9.cell e7 (by simp)))
        have l9 := c7.chg hc9 (by simp)
        have x9 := x7.chg hc9 (by simp) (by simp)
        have hC9 : Chg [] w w9 := hC7.trans hc9
        clear hc9 c7 x7 hC7
        go_wp2
        go_roundw
        case rel => exact ⟨j + 1, c, q7, _, by omega, by go_num, rfl, rfl, l9, x9, hC9, hwc, hwq7, hcq7⟩
        case measure => simp [intOf] <;> omega
      have u2 : ((W : Int) == 2) = false := by simp; omega
      go_wp2_with fail
      obtain ⟨p, hp⟩ : ∃ p, p = wr.heap.size := ⟨_, rfl⟩
      have hpb : b ≠ p := by have := hl.lt; omega
      have hpq : q ≠ p := by have := hx.lt; omega
      rw [← hp]
      refine wp_abs ?_
      intro w0 hw0
      have e1 : w0.cell? ⟨p, 1, none⟩ = some (.int .i64 N) := by rw [hw0, hp]; exact cell_of (heap_new _ _)
      have l0 : LruAt w0 b k row := by rw [hw0]; exact hl.chg (S := []) ((Chg.refl _ _).alloc _) (by simp)
      have x0 : RefL w.heap.size w0 q k row := by rw [hw0]; exact hx.chg (S := []) ((Chg.refl _ _).alloc _) (by simp) (by simp)
      have hC0 : Chg [] w w0 := by rw [hw0]; exact hC.alloc _
      clear hw0 hp d1 d2 hl hx hC
      go_wp2_with fail
      have hltT := l0.2.1
      have HLTT := Lib.hid hltT
      clear hltT
      go_region_held3 (fun w' => w'.cell? ⟨p, 1, none⟩ = some (.int .i64 N)) (first | exact e1 | assumption) (first | (go_at_call 12; refine (has_at b k N (row) _ ?_).mono ?_; exact l0; rintro e9 w9 ⟨rfl, rfl⟩) | (go_at_call 25; refine (rhas_at w.heap.size q k N (row) _ ?_ ?_).mono ?_; exact x0; exact HLTT.out; rintro e9 w9 ⟨rfl, rfl⟩) | (go_at_call 26; refine (alike_any w.heap.size b q k (row) _ ?_ ?_).mono ?_; exact l0; exact x0; rintro e9 w9 ⟨rfl, hc9⟩; replace hc9 := hc9.undrew; have e9' : w9.cell? ⟨p, 1, none⟩ = some (.int .i64 N) := hc9.cell e1 (by simp)))
      have l9 := l0.chg hc9 (by simp)
      have x9 := x0.chg hc9 (by simp) (by simp)
      have hC9 : Chg [] w w9 := hC0.trans hc9
      clear hc9 l0 x0 hC0
      go_wp2
      go_roundw
      case rel => exact ⟨j + 1, b, q, _, by omega, by go_num, rfl, rfl, l9, x9, hC9, hwb, hwq, hbq⟩
      case measure => simp [intOf] <;> omega
    · go_wp2_with fail
      refine (awake_any _).mono ?_
      rintro e w3 ⟨rfl, hc3⟩
      go_wp2
      go_ret
      exact ⟨rfl, (hC.trans hc3).below (Nat.le_refl _) (by simp)⟩

end Go.Proofs.Ytjnipcalncpimaa
