/- The walk of LruApart. -/
import Derived.Test.YtjnipcalncpimaaLruH
namespace Go.Proofs.Ytjnipcalncpimaa
open Go.RowKit

/-- A row whose block lies from lo on, below hi. -/
def RowB (lo hi : Nat) (w : World) (v : Value) (l : List Nat) : Prop := Row .i64 w v l ∧ ∀ a n c, v = .slice (some a) n c → lo ≤ a.block ∧ a.block < hi
theorem rowB_of_own {base : Nat} {w : World} {v : Value} {l : List Nat} (h : OwnI base w v l) : RowB base w.heap.size w v l := by
  refine ⟨row_of_own h, ?_⟩
  intro a n c hv
  obtain ⟨_, h⟩ := h
  rcases h with ⟨hv', _⟩ | ⟨g, cap, cur, hv', hg, hh, _⟩
  · rw [hv'] at hv; cases hv
  · rw [hv'] at hv; cases hv; exact ⟨hg, lt_of_block hh⟩
theorem RowB.chg {lo hi : Nat} {S : List Nat} {w w' : World} {v : Value} {l : List Nat} (h : RowB lo hi w v l) (hc : Chg S w w') (hS : ∀ x ∈ S, x < lo ∨ hi ≤ x) : RowB lo hi w' v l :=
  ⟨h.1.chg hc (fun a n c hv hm => by have h1 := h.2 a n c hv; rcases hS _ hm with hh | hh <;> omega), h.2⟩

def doM (k : Nat) (row : List Nat) (a : Nat × Int) : List Nat := if a.1 = 0 then useI k row a.2 else dropI k row a.2
def moreOf (k : Nat) (row : List Nat) (more : List (Nat × Int)) : List Nat := more.foldl (doM k) row
theorem moreOf_succ (k : Nat) (row : List Nat) (more : List (Nat × Int)) (i : Nat) (h : i < more.length) : moreOf k row (more.take (i + 1)) = doM k (moreOf k row (more.take i)) more[i] := by
  rw [List.take_succ_eq_append_getElem h]
  unfold moreOf
  rw [List.foldl_append]
  rfl

def ApartR1 (k b c : Nat) (row : List Nat) (more : List (Nat × Int)) (w4 : World) (i : Value) (wr : World) : Prop :=
  ∃ j : Nat, j ≤ more.length ∧ i = .int .i64 j ∧ LruAt wr c k (moreOf k row (more.take j)) ∧ Chg [c] w4 wr

set_option maxRecDepth 100000 in
set_option maxHeartbeats 4000000 in
theorem lruApart_walk (n : Int) (a : Option Addr) (cap : Nat) (acts : List (Nat × Int)) (a2 : Option Addr) (cap2 : Nat) (more : List (Nat × Int)) (w : World) (_hn : (Lit.int .i64 n).wf = true) (h : IsActs w a acts) (h' : IsActs w a2 more) :
    Calls Try.prog 5 #[.int .i64 n, .slice a acts.length cap, .slice a2 more.length cap2] w fun e w' => e = .returned (.bool true) ∧ Below w.heap.size w w' := by
  obtain ⟨hmax, _⟩ := id h
  obtain ⟨hmax2, hacts2⟩ := id h'
  unfold maxLen at hmax hmax2
  have HACTS := Lib.hid hacts2
  clear hacts2 h'
  have H := Lib.hid h
  clear h
  by_cases hbig : 500 < acts.length
  · go_enter Try.func5, Try.ntmps5
    go_wp2_with fail
    refine (awake_any _).mono ?_
    rintro e w1 ⟨rfl, hc1⟩
    go_wp2
    go_ret
    exact ⟨rfl, hc1.below (Nat.le_refl _) (by simp)⟩
  have hd1 : decide (500 < acts.length) = false := by simp; omega
  by_cases hbig2 : 500 < more.length
  · go_enter Try.func5, Try.ntmps5
    go_wp2_with fail
    refine (awake_any _).mono ?_
    rintro e w1 ⟨rfl, hc1⟩
    go_wp2
    go_ret
    exact ⟨rfl, hc1.below (Nat.le_refl _) (by simp)⟩
  have hd2 : decide (500 < more.length) = false := by simp; omega
  go_enter Try.func5, Try.ntmps5
  go_wp2_with fail
  refine (awake_any _).mono ?_
  rintro e w1 ⟨rfl, hc1⟩
  go_wp2_with fail
  refine (made_any n a cap acts _ (H.out.chg hc1)).mono ?_
  rintro e w2 ⟨rfl, h2, hc2⟩
  obtain ⟨b, hb⟩ : ∃ b, b = w1.heap.size := ⟨_, rfl⟩
  have hwb : w.heap.size ≤ b := by have := hc1.size; omega
  rw [← hb] at h2 ⊢
  clear hb
  obtain ⟨k, hk⟩ : ∃ k, k = slotsOf n := ⟨_, rfl⟩
  rw [← hk] at h2 ⊢
  have hC2 : Chg [] w w2 := hc1.trans hc2
  have hrl := h2.len
  obtain ⟨row, hrow⟩ : ∃ row, row = rowOf k acts := ⟨_, rfl⟩
  rw [← hrow] at h2 hrl
  clear hk hrow hc1 hc2
  go_wp2_with fail
  refine (row_any b k _ _ h2).mono ?_
  rintro e w3 ⟨v3, rfl, hown3, hc3⟩
  have hb2 := h2.lt
  have h3 := h2.chg hc3 (by simp)
  have hC3 : Chg [] w w3 := hC2.trans hc3
  obtain ⟨a3, c3, rfl⟩ := owns_len hown3
  have R3 := rowB_of_own hown3
  clear hown3 hc3 hC2 h2
  go_wp2_with fail
  refine (copy_any b k _ _ h3).mono ?_
  rintro e w4 ⟨rfl, hcp4, h4, hc4⟩
  obtain ⟨c, hc⟩ : ∃ c, c = w3.heap.size := ⟨_, rfl⟩
  have hbc : b ≠ c := by have := h3.lt; omega
  have hwc : w.heap.size ≤ c := by have := hC3.size; omega
  have R4 := R3.chg hc4 (by simp)
  rw [← hc] at hcp4 R4 ⊢
  have hC4 : Chg [] w w4 := hC3.trans hc4
  obtain ⟨lo, hlo⟩ : ∃ lo, lo = w2.heap.size := ⟨_, rfl⟩
  rw [← hlo] at R4
  have hblo : b < lo := by omega
  clear hc hc4 hC3 h3 R3 hlo hb2
  go_wp2_with fail
  go_loopw [11] (ApartR1 k b c row more w4) (fun i _ => more.length - (intOf i).toNat)
  case atStart => exact ⟨0, Nat.zero_le _, rfl, hcp4, Chg.refl _ _⟩
  case round =>
    clear hcp4
    obtain ⟨j, hj, rfl, hl, hck⟩ := hrel
    have hC : Chg [] w wr := hC4.trans_new hck (by simpa using hwc)
    by_cases hlt : j < more.length
    · obtain ⟨r, o, ha, hr, hcW, hcN, hWb, hNb⟩ := HACTS.out j hlt
      have hsucc := moreOf_succ k row more j hlt
      obtain ⟨W, hW⟩ : ∃ W, W = more[j].1 := ⟨_, rfl⟩
      obtain ⟨N, hN⟩ : ∃ N, N = more[j].2 := ⟨_, rfl⟩
      rw [← hW] at hcW hWb
      rw [← hN] at hcN hNb
      have hdo : doM k (moreOf k row (more.take j)) more[j] = doM k (moreOf k row (more.take j)) (W, N) := by rw [hW, hN]
      rw [hdo] at hsucc
      have HS := Lib.hid hsucc
      clear hW hN hdo hsucc
      subst ha
      have d1 : wr.cell? ⟨r, o + j * 2, none⟩ = some (.int .u8 W) := hC.cell hcW (by simp)
      have d2 : wr.cell? ⟨r, o + j * 2 + 1, none⟩ = some (.int .i64 N) := hC.cell hcN (by simp)
      clear hcW hcN
      by_cases hW0 : W = 0
      · subst hW0
        go_wp2_with fail
        refine (use_at c k N _ _ hl).mono ?_
        rintro e w5 ⟨rfl, h5, hc5⟩
        go_wp2
        go_roundw
        case rel => exact ⟨j + 1, by omega, by go_num, by rw [HS.out]; exact h5, hck.trans hc5⟩
        case measure => simp [intOf] <;> omega
      · have e0 : ((W : Int) == 0) = false := by simp; omega
        go_wp2_with fail
        refine (drop_at c k N _ _ hl).mono ?_
        rintro e w5 ⟨rfl, h5, hc5⟩
        go_wp2
        go_roundw
        case rel => exact ⟨j + 1, by omega, by go_num, by rw [HS.out]; unfold doM; rw [if_neg hW0]; exact h5, hck.trans hc5⟩
        case measure => simp [intOf] <;> omega
    · obtain rfl : j = more.length := by omega
      rw [List.take_of_length_le (Nat.le_refl _)] at hl
      have h5 := h4.chg hck (by simpa using hbc)
      have R5 := R4.chg hck (by simp)
      obtain ⟨oth, hoth⟩ : ∃ oth, oth = moreOf k row more := ⟨_, rfl⟩
      rw [← hoth] at hl
      have HO := Lib.hid hoth
      have hol := hl.len
      clear hoth hck
      obtain ⟨w5, hw5⟩ : ∃ w5, w5 = wr := ⟨_, rfl⟩
      rw [← hw5] at h5 R5 hl hC ⊢
      clear hw5 R4 h4 hC4
      go_wp2_with fail
      refine (row_any b k _ _ h5).mono ?_
      rintro e w6 ⟨v6, rfl, hown6, hc6⟩
      have h6 := h5.chg hc6 (by simp)
      have g6 := hl.chg hc6 (by simp)
      have R6 := R5.chg hc6 (by simp)
      have hC6 : Chg [] w w6 := hC.trans hc6
      obtain ⟨a6, c6, rfl⟩ := owns_len hown6
      have Q6 := row_of_own hown6
      clear hown6 hc6 h5 R5 hl hC
      go_wp2_with fail
      refine (ints_any _ _ row row _ Q6 R6.1 (by omega) (by omega)).mono ?_
      rintro e w7 ⟨rfl, n7, hw7⟩
      have h7 : LruAt w7 b k row := by rw [hw7]; exact h6
      have g7 : LruAt w7 c k oth := by rw [hw7]; exact g6
      have hC7 : Chg [] w w7 := by rw [hw7]; exact hC6.drewN _
      clear hw7 h6 g6 hC6 Q6 R6
      go_wp2_with fail
      refine (len_any b k _ _ h7).mono ?_
      rintro e w8 ⟨rfl, hc8⟩
      have h8 := h7.chg hc8 (by simp)
      have g8 := g7.chg hc8 (by simp)
      have hC8 : Chg [] w w8 := hC7.trans hc8
      clear h7 g7 hC7 hc8
      go_wp2_with fail
      refine (row_any c k _ _ g8).mono ?_
      rintro e w9 ⟨v9, rfl, hown9, hc9⟩
      have h9 := h8.chg hc9 (by simp)
      have g9 := g8.chg hc9 (by simp)
      have hC9 : Chg [] w w9 := hC8.trans hc9
      obtain ⟨a9, c9, rfl⟩ := owns_len hown9
      have R9 := rowB_of_own hown9
      have hb9 : b < w8.heap.size := h8.lt
      have hc9' : c < w8.heap.size := g8.lt
      clear hown9 hc9 h8 g8 hC8
      go_wp2_with fail
      go_loopw [13] (ApartR1 k c b row more w9) (fun i _ => more.length - (intOf i).toNat)
      case atStart => exact ⟨0, Nat.zero_le _, rfl, h9, Chg.refl _ _⟩
      case round =>
        clear h9
        obtain ⟨j, hj, rfl, hl, hck⟩ := hrel
        have hC : Chg [] w wr := hC9.trans_new hck (by simpa using hwb)
        by_cases hlt : j < more.length
        · obtain ⟨r, o, ha, hr, hcW, hcN, hWb, hNb⟩ := HACTS.out j hlt
          have hsucc := moreOf_succ k row more j hlt
          obtain ⟨W, hW⟩ : ∃ W, W = more[j].1 := ⟨_, rfl⟩
          obtain ⟨N, hN⟩ : ∃ N, N = more[j].2 := ⟨_, rfl⟩
          rw [← hW] at hcW hWb
          rw [← hN] at hcN hNb
          have hdo : doM k (moreOf k row (more.take j)) more[j] = doM k (moreOf k row (more.take j)) (W, N) := by rw [hW, hN]
          rw [hdo] at hsucc
          have HS := Lib.hid hsucc
          clear hW hN hdo hsucc
          subst ha
          have d1 : wr.cell? ⟨r, o + j * 2, none⟩ = some (.int .u8 W) := hC.cell hcW (by simp)
          have d2 : wr.cell? ⟨r, o + j * 2 + 1, none⟩ = some (.int .i64 N) := hC.cell hcN (by simp)
          clear hcW hcN
          by_cases hW0 : W = 0
          · subst hW0
            go_wp2_with fail
            refine (use_at b k N _ _ hl).mono ?_
            rintro e w5 ⟨rfl, h5, hc5⟩
            go_wp2
            go_roundw
            case rel => exact ⟨j + 1, by omega, by go_num, by rw [HS.out]; exact h5, hck.trans hc5⟩
            case measure => simp [intOf] <;> omega
          · have e0 : ((W : Int) == 0) = false := by simp; omega
            go_wp2_with fail
            refine (drop_at b k N _ _ hl).mono ?_
            rintro e w5 ⟨rfl, h5, hc5⟩
            go_wp2
            go_roundw
            case rel => exact ⟨j + 1, by omega, by go_num, by rw [HS.out]; unfold doM; rw [if_neg hW0]; exact h5, hck.trans hc5⟩
            case measure => simp [intOf] <;> omega
        · obtain rfl : j = more.length := by omega
          rw [List.take_of_length_le (Nat.le_refl _), ← HO.out] at hl
          have g10 := g9.chg hck (by simpa using Ne.symm hbc)
          have R10 := R9.chg hck (by simpa using Or.inl hb9)
          obtain ⟨w10, hw10⟩ : ∃ w10, w10 = wr := ⟨_, rfl⟩
          rw [← hw10] at hl R10 g10 hC ⊢
          clear hw10 R9 g9 hC9 hck
          go_wp2_with fail
          refine (row_any c k _ _ g10).mono ?_
          rintro e w11 ⟨v11, rfl, hown11, hc11⟩
          have h11 := hl.chg hc11 (by simp)
          have R11 := R10.chg hc11 (by simp)
          have hC11 : Chg [] w w11 := hC.trans hc11
          obtain ⟨a11, c11, rfl⟩ := owns_len hown11
          have Q11 := row_of_own hown11
          clear hown11 hc11 hl R10 g10 hC
          go_wp2_with fail
          refine (ints_any _ _ oth oth _ Q11 R11.1 (by omega) (by omega)).mono ?_
          rintro e w12 ⟨rfl, n12, hw12⟩
          have h12 : LruAt w12 b k oth := by rw [hw12]; exact h11
          have R12 : RowB w8.heap.size w9.heap.size w12 (.slice a9 oth.length c9) oth := by rw [hw12]; exact R11
          have hC12 : Chg [] w w12 := by rw [hw12]; exact hC11.drewN _
          clear hw12 h11 hC11 Q11 R11
          go_wp2_with fail
          refine (row_any b k _ _ h12).mono ?_
          rintro e w13 ⟨v13, rfl, hown13, hc13⟩
          have R13 := R12.chg hc13 (by simp)
          have hC13 : Chg [] w w13 := hC12.trans hc13
          obtain ⟨a13, c13, rfl⟩ := owns_len hown13
          have Q13 := row_of_own hown13
          clear hown13 hc13 h12 R12 hC12
          go_wp2_with fail
          refine (ints_any _ _ oth oth _ Q13 R13.1 (by omega) (by omega)).mono ?_
          rintro e w14 ⟨rfl, n14, hw14⟩
          have hC14 : Chg [] w w14 := by rw [hw14]; exact hC13.drewN _
          clear hw14
          go_wp2
          go_ret
          exact ⟨rfl, hC14.below (Nat.le_refl _) (by simp)⟩

end Go.Proofs.Ytjnipcalncpimaa
