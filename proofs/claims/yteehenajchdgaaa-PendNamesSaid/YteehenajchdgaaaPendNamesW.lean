/- The walk of PendNames. -/
import Derived.Test.YteehenajchdgaaaPendDrawW
namespace Go.Proofs.Yteehenajchdgaaa
open Go.RowKit Go.Maps

/-- The first i of all, at the last upstream. -/
def namL (i : Nat) : List Ou := (List.range i).map fun j => ⟨8, ((j % 32 : Nat) : Int), j⟩
theorem namL_succ (i : Nat) : namL (i + 1) = namL i ++ [⟨8, ((i % 32 : Nat) : Int), i⟩] := by simp [namL, List.range_succ]
theorem namL_len (i : Nat) : (namL i).length = i := by simp [namL]
theorem namL_u {i : Nat} {o : Ou} (h : o ∈ namL i) : o.u = 8 ∧ o.id < i ∧ o.slot = ((o.id % 32 : Nat) : Int) := by
  obtain ⟨j, hj, rfl⟩ := List.mem_map.1 h
  exact ⟨rfl, by simpa using hj, rfl⟩
theorem len_all {L : List Ou} {u : Int} (h : ∀ o ∈ L, o.u = u) : lenO L u = L.length := by
  unfold lenO outsP
  rw [List.length_map, List.filter_eq_self.2]
  intro o ho
  simpa using h o ho
theorem len_none0 {L : List Ou} {u : Int} (h : ∀ o ∈ L, o.u ≠ u) : lenO L u = 0 := by
  unfold lenO outsP
  rw [List.length_map, List.filter_eq_nil_iff.2]
  · rfl
  · intro o ho
    simpa using h o ho
theorem namL_has {i : Nat} {L : List Ou} (hs : ∀ o, o ∈ L → o ∈ namL i) : hasO L 8 i = false := by
  cases h : hasO L 8 i with
  | false => rfl
  | true =>
    obtain ⟨o, ho, _, e⟩ := hasO_iff.1 h
    have := (namL_u (hs o ho)).2.1
    omega
theorem nam_draw (i : Nat) (hi : i < 65536) : errP 9 (namL i) 8 ((i % 32 : Nat) : Int) = 0 ∧ nextO (namL i) 8 (D.drawN 0 [i] 0 % 65536) = i := by
  constructor
  · unfold errP badP
    have h1 : lenO (namL i) 8 = i := by rw [len_all (fun o ho => (namL_u ho).1), namL_len]
    rw [if_neg (by simp; omega), if_neg (by omega)]
  · have e : D.drawN 0 [i] 0 % 65536 = i := by
      have : D.drawN 0 [i] 0 = i := rfl
      rw [this]; omega
    rw [e]
    exact nf_hit _ _ _ (namL_has (fun o h => h))
theorem count32 (k : Nat) : ((List.range (32 * k)).filter fun j => decide (¬ j % 32 = 31)).length = 31 * k := by
  induction k with
  | zero => rfl
  | succ k ih =>
    rw [show 32 * (k + 1) = 32 * k + 32 by omega, List.range_add, List.filter_append, List.length_append, ih, List.filter_map, List.length_map]
    have : (List.range 32).filter ((fun j => decide (¬ j % 32 = 31)) ∘ fun x => 32 * k + x) = (List.range 32).filter fun j => decide (¬ j % 32 = 31) := by
      apply List.filter_congr
      intro x _
      simp only [Function.comp]
      rw [show (32 * k + x) % 32 = x % 32 by omega]
    rw [this]
    have h2 : ((List.range 32).filter fun j => decide (¬ j % 32 = 31)).length = 31 := by decide
    rw [h2]
    omega
def nam2 : List Ou := freeA (namL 65536) 31
theorem nam2_len : nam2.length = 63488 := by
  unfold nam2 freeA namL
  rw [List.filter_map, List.length_map]
  have h := count32 2048
  have e : (List.range 65536).filter ((fun o : Ou => !decide (o.slot = 31)) ∘ fun j => ⟨8, ((j % 32 : Nat) : Int), j⟩) = (List.range (32 * 2048)).filter fun j => decide (¬ j % 32 = 31) := by
    apply List.filter_congr
    intro j _
    by_cases h : j % 32 = 31
    · have : ((j % 32 : Nat) : Int) = 31 := by omega
      simp only [Function.comp, this, decide_true, Bool.not_true]
      simp [h]
    · have : ¬ ((j % 32 : Nat) : Int) = 31 := by omega
      simp only [Function.comp, this, decide_false, Bool.not_false]
      simp [h]
  rw [e, h]
theorem nam2_mem {o : Ou} (h : o ∈ nam2) : o ∈ namL 65536 := (List.mem_filter.1 h).1
theorem nam2_has (j : Nat) (hj : j < 65536) : hasO nam2 8 j = decide (¬ j % 32 = 31) := by
  by_cases h : j % 32 = 31
  · have e : hasO nam2 8 j = false := by
      cases hh : hasO nam2 8 j with
      | false => rfl
      | true =>
        obtain ⟨o, ho, _, e⟩ := hasO_iff.1 hh
        have h1 := (namL_u (nam2_mem ho)).2.2
        have h2 := (List.mem_filter.1 ho).2
        simp at h2
        omega
    rw [e]; simp [h]
  · have e : hasO nam2 8 j = true := by
      refine hasO_iff.2 ⟨⟨8, ((j % 32 : Nat) : Int), j⟩, List.mem_filter.2 ⟨List.mem_map.2 ⟨j, by simpa using hj, rfl⟩, ?_⟩, rfl, rfl⟩
      have : ¬ ((j % 32 : Nat) : Int) = 31 := by omega
      simp only [this, decide_false, Bool.not_false]
    rw [e]; simp [h]
theorem nf_run (p : Nat → Bool) : ∀ k f x, (∀ i, i < k → p (x + i) = true) → p (x + k) = false → k ≤ f → x + k < 65536 → nf p f x = x + k
  | 0, f, x, _, h2, _, _ => nf_hit _ _ _ h2
  | k + 1, 0, x, _, _, h3, _ => by omega
  | k + 1, f + 1, x, h1, h2, h3, h4 => by
    rw [nf_miss _ _ _ (by have := h1 0 (by omega); simpa using this), Nat.mod_eq_of_lt (by omega)]
    rw [nf_run p k f (x + 1) (fun i hi => by have := h1 (i + 1) (by omega); rwa [show x + (i + 1) = x + 1 + i by omega] at this) (by rwa [show x + (k + 1) = x + 1 + k by omega] at h2) (by omega) (by omega)]
    omega
theorem nam2_draw : errP 9 nam2 8 4 = 0 ∧ nextO nam2 8 (D.drawN 0 [0] 0 % 65536) = 31 := by
  constructor
  · unfold errP badP
    have h1 : lenO nam2 8 = 63488 := by rw [len_all (fun o ho => (namL_u (nam2_mem ho)).1), nam2_len]
    rw [if_neg (by simp), if_neg (by omega)]
  · have e : D.drawN 0 [0] 0 % 65536 = 0 := rfl
    rw [e]
    exact nf_run _ 31 65536 0 (fun i hi => by rw [nam2_has _ (by omega)]; simp; omega) (by rw [nam2_has _ (by omega)]; decide) (by omega) (by omega)

theorem freeO_id {L : List Ou} {s u : Int} (h : ∀ o ∈ L, o.u ≠ u) : freeO L s u = L := by
  refine List.filter_eq_self.2 fun o ho => ?_
  have := h o ho
  simp [this]
theorem freeA_id {L : List Ou} {s : Int} (h : ∀ o ∈ L, o.slot ≠ s) : freeA L s = L := by
  refine List.filter_eq_self.2 fun o ho => ?_
  have := h o ho
  simp [this]
theorem at_fresh (p : Nat) (w : World) (c0 : w.cell? ⟨p, 0, none⟩ = some (.slice none 0 0)) : Calls Try.prog 30 #[.pointer (some ⟨p, 0, none⟩), .int .i64 0] w fun e w' => e = .returned (.map none) ∧ w = w' := by
  go_enter Try.func30, Try.ntmps30
  go_wp2
  go_ret
  exact ⟨rfl, rfl⟩

def NamR (tb : Nat) (ms : List Nat) (b g : Nat) (w : World) (i : Value) (wr : World) : Prop :=
  ∃ j : Nat, j ≤ 4 ∧ i = .int .i64 (j : Nat) ∧ TT wr tb ms 9 b 3 [] ⟨[], 0⟩ ∧ wr.heap[g]? = some (.cells #[.int .i64 (-1), .int .i64 0, .int .i64 9, .int .i64 0, .int .i64 0, .int .i64 (-1), .int .i64 0, .int .i64 32] 50 (0, 0)) ∧ Chg [] w wr
def NamI (tb : Nat) (ms : List Nat) (b : Nat) (w : World) (i : Value) (wr : World) : Prop :=
  ∃ j : Nat, j ≤ 65536 ∧ i = .int .i64 (j : Nat) ∧ TT wr tb ms 9 b 3 [] ⟨namL j, 0⟩ ∧ Chg [] w wr

set_option maxRecDepth 100000 in
set_option maxHeartbeats 8000000 in
theorem pendNames_walk (w : World) : Calls Try.prog 6 #[] w fun e w' => e = .returned (.bool true) ∧ Below w.heap.size w w' := by
  go_enter Try.func6, Try.ntmps6
  go_wp2_with fail
  refine (awake_any _).mono ?_
  rintro e w1 ⟨rfl, hc1⟩
  go_wp2_with fail
  refine (new_out 0 w1 (by omega)).mono ?_
  rintro e w2 ⟨rfl, rfl⟩
  go_wp2_with fail
  refine (new_out 10 w1 (by omega)).mono ?_
  rintro e w2 ⟨rfl, rfl⟩
  go_wp2_with fail
  refine (new_in 9 w1 (by omega) (by omega)).mono ?_
  rintro e w2 ⟨tb, ms, rfl, hP, htb, hms, hc2⟩
  have hC2 := hc1.trans hc2
  go_wp2_with fail
  refine (D.new_any 3 _ [] w2 (by simp) (by simp) D.reads_nil).mono ?_
  rintro e w3 ⟨b, rfl, hbl, hT, hc3⟩
  have hTT : TT w3 tb ms 9 b 3 [] ⟨[], 0⟩ := ⟨hP.same hc3, hT⟩
  have hC3 := hC2.trans hc3
  have hbw : w.heap.size ≤ b := Nat.le_trans hC2.size hbl
  have hS : ∀ y ∈ b :: ms, y ∈ ([] : List Nat) ∨ w.heap.size ≤ y := by
    intro y hy
    rcases List.mem_cons.1 hy with e | e
    · right; omega
    · exact .inr (Nat.le_trans hc1.size (hms y e))
  have HS := Lib.hid hS
  clear hP hT hc1 hc2 hc3 hC2 hbl htb hms hS
  go_wp2_with fail
  obtain ⟨g, hg⟩ : ∃ g, g = w3.heap.size := ⟨_, rfl⟩
  have hgg : (w3.alloc (.cells #[.int .i64 (-1), .int .i64 0, .int .i64 9, .int .i64 0, .int .i64 0, .int .i64 (-1), .int .i64 0, .int .i64 32] 50)).heap[g]? = some (.cells #[.int .i64 (-1), .int .i64 0, .int .i64 9, .int .i64 0, .int .i64 0, .int .i64 (-1), .int .i64 0, .int .i64 32] 50 (0, 0)) := heap_new' _ _ _ hg
  have hTT2 := hTT.same ((Chg.refl [] w3).alloc (.cells #[.int .i64 (-1), .int .i64 0, .int .i64 9, .int .i64 0, .int .i64 0, .int .i64 (-1), .int .i64 0, .int .i64 32] 50))
  have hC4 := hC3.alloc (.cells #[.int .i64 (-1), .int .i64 0, .int .i64 9, .int .i64 0, .int .i64 0, .int .i64 (-1), .int .i64 0, .int .i64 32] 50)
  rw [← hg]
  have HGG := Lib.hid hgg
  have HTT := Lib.hid hTT2
  have HC4 := Lib.hid hC4
  clear hg hgg hTT hTT2 hC3 hC4
  go_loopw [64] (NamR tb ms b g w) (fun i _ => 4 - (intOf i).toNat)
  case atStart => exact ⟨0, by omega, rfl, HTT.out, HGG.out, HC4.out⟩
  case round =>
    clear HTT HGG HC4
    obtain ⟨j, hj, rfl, hT, hg, hC⟩ := hrel
    by_cases hlt : j < 4
    · obtain ⟨U, S, hU, hS, hbad⟩ : ∃ U S : Int, wr.cell? ⟨g, j * 2, none⟩ = some (.int .i64 U) ∧ wr.cell? ⟨g, j * 2 + 1, none⟩ = some (.int .i64 S) ∧ (U < 0 ∨ ((9 : Nat) : Int) ≤ U ∨ S < 0 ∨ 32 ≤ S) := by
        have : j = 0 ∨ j = 1 ∨ j = 2 ∨ j = 3 := by omega
        rcases this with rfl | rfl | rfl | rfl
        · exact ⟨-1, 0, by rw [cell_of hg]; rfl, by rw [cell_of hg]; rfl, by omega⟩
        · exact ⟨9, 0, by rw [cell_of hg]; rfl, by rw [cell_of hg]; rfl, by omega⟩
        · exact ⟨0, -1, by rw [cell_of hg]; rfl, by rw [cell_of hg]; rfl, by omega⟩
        · exact ⟨0, 32, by rw [cell_of hg]; rfl, by rw [cell_of hg]; rfl, by omega⟩
      have HG := Lib.hid hg
      have HB := Lib.hid hbad
      clear hg hbad
      go_wp2_with fail
      have hT1 := hT.same ((Chg.refl [] wr).alloc (.cells #[.int .i64 U, .int .i64 S] 50))
      have hC1 := hC.alloc (.cells #[.int .i64 U, .int .i64 S] 50)
      have hg1 := heap_old (o := .cells #[.int .i64 U, .int .i64 S] 50) HG.out
      obtain ⟨gt, h1, _⟩ := hT1.tab.head
      have c0 := cell_of (i := 0) h1
      have HG1 := Lib.hid hg1
      clear hT hC HG hg1 h1 hU hS
      refine (draw_arg tb _ U S 9 _ _ (by omega) c0 HB.out).mono ?_
      rintro e w4 ⟨rfl, rfl⟩
      go_wp2_with fail
      refine (D.used_any b 3 [] 0 _ hT1.tape).mono ?_
      rintro e w4 ⟨rfl, rfl⟩
      go_wp2
      go_roundw
      case rel => exact ⟨j + 1, by omega, by go_num, hT1, HG1.out, hC1⟩
      case measure => simp [intOf] <;> omega
    · obtain rfl : j = 4 := by omega
      clear hg hj
      go_wp2_with fail
      clear hlt
      obtain ⟨wo, hwo⟩ : ∃ wo : World, wo = wr := ⟨_, rfl⟩
      rw [← hwo] at hT hC ⊢
      clear hwo
      have HT := Lib.hid hT
      have HC := Lib.hid hC
      clear hT hC
      go_loopw [12] (NamI tb ms b w) (fun i _ => 65536 - (intOf i).toNat)
      case atStart => exact ⟨0, by omega, rfl, HT.out, HC.out⟩
      case round =>
        clear HT HC
        obtain ⟨i, hi, rfl, hT, hC⟩ := hrel
        by_cases hlt : i < 65536
        · obtain ⟨he, hn⟩ := nam_draw i hlt
          have em : ((i % 32 : Nat) : Int) = (i : Int) % 32 := by omega
          have hsuc := namL_succ i
          rw [em] at he hsuc
          have E0 : Hid (0 = errP 9 (namL i) 8 ((i : Int) % 32)) := Lib.hid he.symm
          have E1 : Hid (i = idP 9 (namL i) 8 ((i : Int) % 32) (D.drawN 0 [i] 0)) := Lib.hid (by unfold idP; rw [if_pos he, hn])
          have E2 : Hid (namL (i + 1) = drawL 9 (namL i) 8 ((i : Int) % 32) (D.drawN 0 [i] 0)) := Lib.hid (by unfold drawL; rw [if_pos he, hn, hsuc])
          clear he hn em hsuc
          have hrd : D.Reads .u64 (wr.alloc (.cells (rowI .u64 [i]) 22)) (.slice (some ⟨wr.heap.size, 0, none⟩) 1 1) [i] := D.reads_heap (heap_new _ _)
          have hT1 := hT.same ((Chg.refl [] wr).alloc (.cells (rowI .u64 [i]) 22))
          have hC1 := hC.alloc (.cells (rowI .u64 [i]) 22)
          have HRD := Lib.hid hrd
          have hiI : (i : Int) < 65536 := by omega
          have HLT := Lib.hid hlt
          clear hT hC hrd hlt hi
          go_wp2_with fail
          have hlt := HLT.out
          refine (D.new_any 0 _ [i] _ (by simp) (by simp; omega) HRD.out).mono ?_
          rintro e w5 ⟨b2, rfl, hbl, hTn, hc5⟩
          have hT5 := hT1.same hc5
          have hC5 := hC1.trans hc5
          have hb2w : w.heap.size ≤ b2 := Nat.le_trans hC1.size hbl
          have hbb : b ≠ b2 := by have := hT1.tape.lt; omega
          clear hT1 hC1 hc5 HRD hbl
          go_wp2_with fail
          refine (draw_any tb ms 9 (namL i) w5 8 ((i : Int) % 32) b2 0 [i] 0 i 0 _ _ hT5.tab hTn (by omega) E0 E1 E2 (Lib.hid rfl)).mono ?_
          rintro e w6 ⟨rfl, hP6, _, hc6⟩
          have hTb6 := tape_chg hT5.tape hc6 (TT.odd (st := ⟨namL i, 0⟩) ⟨hT5.tab, hTn⟩) (by
            intro hh
            rcases List.mem_cons.1 hh with e | e
            · exact hbb e
            · exact hT5.tab.not_tape hT5.tape b e rfl)
          have hT6 : TT w6 tb ms 9 b 3 [] ⟨namL (i + 1), 0⟩ := ⟨hP6, hTb6⟩
          have hC6 : Chg [] w w6 := hC5.trans_new hc6 (by
            intro y hy
            rcases List.mem_cons.1 hy with e | e
            · right; omega
            · exact HS.out y (List.mem_cons_of_mem _ e))
          clear hT5 hC5 hc6 hP6 hTb6 E0 E1 E2 hTn
          go_wp2
          go_roundw
          case rel => first | exact ⟨i + 1, by omega, by go_num, hT6, hC6⟩ | ((repeat apply Exists.intro); exact ⟨⟨i + 1, by omega, by go_num, hT6, hC6⟩, rfl⟩)
          case measure => simp [intOf] <;> omega
        · obtain rfl : i = 65536 := by omega
          obtain ⟨L, hL⟩ : ∃ L, L = namL 65536 := ⟨_, rfl⟩
          have hl8 : lenO L 8 = 65536 := by rw [hL, len_all (fun o ho => (namL_u ho).1), namL_len]
          have hl7 : 0 = lenO L 7 := by rw [hL, len_none0 (fun o ho => by rw [(namL_u ho).1]; decide)]
          have hLl : L.length = 65536 := by rw [hL, namL_len]
          have hf7 : freeO L 31 7 = L := by rw [hL]; exact freeO_id (fun o ho => by rw [(namL_u ho).1]; decide)
          have hf31 : freeA L 31 = nam2 := by rw [hL]; rfl
          rw [← hL] at hT
          clear hL hi
          have HL8 := Lib.hid hl8
          have HL7 := Lib.hid hl7
          have HLL := Lib.hid hLl
          have HF7 := Lib.hid hf7
          have HF31 := Lib.hid hf31
          clear hl8 hl7 hLl hf7 hf31
          have h8 : (8 : Nat) < ms.length := by rw [hT.tab.len]; omega
          go_wp2_with fail
          clear hlt
          refine (draw_full tb ms 9 L wr 8 0 _ hT.tab h8 (by omega) (by show 65536 ≤ lenO L 8; rw [HL8.out]; omega)).mono ?_
          rintro e w4 ⟨rfl, rfl⟩
          go_wp2_with fail
          refine (D.used_any b 3 [] 0 _ hT.tape).mono ?_
          rintro e w4 ⟨rfl, rfl⟩
          go_wp2_with fail
          refine (len_any tb ms 9 L _ 8 65536 hT.tab (Lib.hid HL8.out.symm)).mono ?_
          rintro e w4 ⟨rfl, rfl⟩
          go_wp2_with fail
          refine (len_any tb ms 9 L _ 7 0 hT.tab HL7).mono ?_
          rintro e w4 ⟨rfl, rfl⟩
          go_wp2_with fail
          refine (freeAt_any tb ms 9 L _ 7 31 0 hT.tab (Lib.hid (by rw [HF7.out, Nat.sub_self]))).mono ?_
          rintro e w4 ⟨rfl, hP4, hc4⟩
          rw [HF7.out] at hP4
          have hTb4 := hT.tab.btape hT.tape hc4
          have hC4 := hC.trans_new hc4 (fun y hy => HS.out y (List.mem_cons_of_mem _ hy))
          clear hT hC hc4 HF7 HL7
          go_wp2_with fail
          refine (free_any tb ms 9 L _ 31 2048 hP4 (Lib.hid (by rw [HF31.out, nam2_len, HLL.out])) (by rw [HLL.out]; omega)).mono ?_
          rintro e w5 ⟨rfl, hP5, hc5⟩
          rw [HF31.out] at hP5
          have hTb5 := hP4.btape hTb4 hc5
          have hC5 := hC4.trans_new hc5 (fun y hy => HS.out y (List.mem_cons_of_mem _ hy))
          clear hP4 hTb4 hC4 hc5 HF31 HLL HL8
          go_wp2_with fail
          refine (len_any tb ms 9 _ _ 8 63488 hP5 (Lib.hid (by rw [len_all (fun o ho => (namL_u (nam2_mem ho)).1), nam2_len]))).mono ?_
          rintro e w6 ⟨rfl, rfl⟩
          have hid1 : freeA nam2 (-1) = nam2 := freeA_id (fun o ho => by rw [(namL_u (nam2_mem ho)).2.2]; omega)
          have HID1 := Lib.hid hid1
          clear hid1
          go_wp2_with fail
          refine (free_any tb ms 9 _ _ (-1) 0 hP5 (Lib.hid (by rw [HID1.out, Nat.sub_self])) (by rw [nam2_len]; omega)).mono ?_
          rintro e w6 ⟨rfl, hP6, hc6⟩
          rw [HID1.out] at hP6
          have hTb6 := hP5.btape hTb5 hc6
          have hC6 := hC5.trans_new hc6 (fun y hy => HS.out y (List.mem_cons_of_mem _ hy))
          clear hP5 hTb5 hC5 hc6 HID1
          obtain ⟨he, hn⟩ := nam2_draw
          have E0 : Hid (0 = errP 9 nam2 8 4) := Lib.hid he.symm
          have E1 : Hid (31 = idP 9 nam2 8 4 (D.drawN 0 [0] 0)) := Lib.hid (by unfold idP; rw [if_pos he, hn])
          clear he hn
          have hrd : D.Reads .u64 (w6.alloc (.cells (rowI .u64 [0]) 22)) (.slice (some ⟨w6.heap.size, 0, none⟩) 1 1) [0] := D.reads_heap (heap_new _ _)
          have hT1 : TT (w6.alloc (.cells (rowI .u64 [0]) 22)) tb ms 9 b 3 [] ⟨nam2, 0⟩ := TT.same ⟨hP6, hTb6⟩ ((Chg.refl [] w6).alloc (.cells (rowI .u64 [0]) 22))
          have hC1 := hC6.alloc (.cells (rowI .u64 [0]) 22)
          have HRD := Lib.hid hrd
          clear hP6 hTb6 hC6 hrd
          go_wp2_with fail
          refine (D.new_any 0 _ [0] _ (by simp) (by simp) HRD.out).mono ?_
          rintro e w7 ⟨b2, rfl, hbl, hTn, hc7⟩
          have hT7 := hT1.same hc7
          have hC7 := hC1.trans hc7
          have hb2w : w.heap.size ≤ b2 := Nat.le_trans hC1.size hbl
          have hbb : b ≠ b2 := by have := hT1.tape.lt; omega
          clear hT1 hC1 hc7 HRD hbl
          go_wp2_with fail
          refine (draw_any tb ms 9 nam2 w7 8 4 b2 0 [0] 0 31 0 _ _ hT7.tab hTn (by omega) E0 E1 (Lib.hid rfl) (Lib.hid rfl)).mono ?_
          rintro e w8 ⟨rfl, hP8, _, hc8⟩
          have hTb8 := tape_chg hT7.tape hc8 (TT.odd (st := ⟨nam2, 0⟩) ⟨hT7.tab, hTn⟩) (by
            intro hh
            rcases List.mem_cons.1 hh with e | e
            · exact hbb e
            · exact hT7.tab.not_tape hT7.tape b e rfl)
          have hC8 : Chg [] w w8 := hC7.trans_new hc8 (by
            intro y hy
            rcases List.mem_cons.1 hy with e | e
            · right; omega
            · exact HS.out y (List.mem_cons_of_mem _ e))
          clear hT7 hC7 hc8 E0 E1 hTn hP8
          go_wp2_with fail
          obtain ⟨p, hp⟩ : ∃ p, p = w8.heap.size := ⟨_, rfl⟩
          rw [← hp]
          have c0 : (w8.alloc (.cells #[.slice none 0 0] 55)).cell? ⟨p, 0, none⟩ = some (.slice none 0 0) := by rw [hp]; exact cell_of (heap_new _ _)
          have hTb9 := tape_chg hTb8 ((Chg.refl [] w8).alloc (.cells #[.slice none 0 0] 55)) (odd_nil _) (by simp)
          have hC9 := hC8.alloc (.cells #[.slice none 0 0] 55)
          obtain ⟨w9, hw9⟩ : ∃ w9, w9 = w8.alloc (.cells #[.slice none 0 0] 55) := ⟨_, rfl⟩
          rw [← hw9] at c0 hTb9 hC9 ⊢
          clear hw9 hp hTb8 hC8
          refine (draw_nil w9 0 0 _).mono ?_
          rintro e w10 ⟨rfl, rfl⟩
          go_wp2_with fail
          refine (draw_notape w9 0 0 _).mono ?_
          rintro e w10 ⟨rfl, rfl⟩
          go_wp2_with fail
          refine (find_none w9 none 0 0 (by omega) (at_nil w9 0)).mono ?_
          rintro e w10 ⟨rfl, rfl⟩
          go_wp2_with fail
          refine (draw_arg p w9 0 0 0 none _ (by omega) c0 (by omega)).mono ?_
          rintro e w10 ⟨rfl, rfl⟩
          go_wp2_with fail
          refine (free_nil w9 0).mono ?_
          rintro e w10 ⟨rfl, rfl⟩
          go_wp2_with fail
          refine (freeAt_none w9 none 0 0 (at_nil w9 0)).mono ?_
          rintro e w10 ⟨rfl, hc10⟩
          have c1 := hc10.cell c0 (by simp)
          have hC10 := hC9.trans hc10
          clear c0 hTb9 hC9 hc10
          go_wp2_with fail
          refine (len_none w10 none 0 (at_nil w10 0)).mono ?_
          rintro e w11 ⟨rfl, rfl⟩
          go_wp2_with fail
          refine (copy_nil w10).mono ?_
          rintro e w11 ⟨rfl, rfl⟩
          go_wp2_with fail
          refine (len_none w10 _ 0 (at_fresh p w10 c1)).mono ?_
          rintro e w11 ⟨rfl, rfl⟩
          go_wp2
          go_ret
          exact ⟨rfl, hC10.below (Nat.le_refl _) (by simp)⟩

end Go.Proofs.Yteehenajchdgaaa
