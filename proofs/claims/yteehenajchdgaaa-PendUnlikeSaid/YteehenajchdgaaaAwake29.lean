/- The examples of the tables of IDs, as every statement asks them (awake). -/
import Derived.Test.YteehenajchdgaaaPendG
namespace Go.Proofs.Yteehenajchdgaaa
open Go.RowKit Go.Maps

theorem TT.odd {w : World} {tb : Nat} {ms : List Nat} {n b seed : Nat} {l : List Nat} {st : PS} (h : TT w tb ms n b seed l st) : Odd (b :: ms) w := by
  intro k hk
  rcases List.mem_cons.1 hk with e | e
  · exact tape_odd h.tape k (by simp [e])
  · exact h.tab.odd k e
theorem Odd.keep {S : List Nat} {w w' : World} (h : Odd S w) (hc : Chg S w w') {g : Nat} {c : Array Value} {t : TypeId} {f : Nat × Nat} (hg : w.heap[g]? = some (.cells c t f)) (ht : ¬(t = 76 ∨ t = 63 ∨ t = 79)) : w'.heap[g]? = some (.cells c t f) :=
  hc.keep hg fun hk => ht (h g hk _ _ _ hg)

def awO : List Ou := [⟨0, 1, 5⟩, ⟨0, 2, 6⟩, ⟨0, 3, 65535⟩, ⟨0, 4, 0⟩]
def awT : List Nat := [5, 65541, 65535, 131071, 5]
def awW : List Nat := [5, 6, 65535, 0]
theorem nf_hit (p : Nat → Bool) (f x : Nat) (h : p x = false) : nf p f x = x := by
  cases f with
  | zero => rfl
  | succ f => unfold nf; rw [if_neg (by rw [h]; simp)]
theorem nf_miss (p : Nat → Bool) (f x : Nat) (h : p x = true) : nf p (f + 1) x = nf p f ((x + 1) % 65536) := by
  rw [nf, if_pos h]
theorem aw_draw : ∀ j, j < 4 → errP 2 (awO.take j) 0 ((j : Int) + 1) = 0 ∧ nextO (awO.take j) 0 (D.drawN 0 awT j % 65536) = awW[j]! ∧ awO.take (j + 1) = awO.take j ++ [⟨0, (j : Int) + 1, awW[j]!⟩] := by
  intro j hj
  have : j = 0 ∨ j = 1 ∨ j = 2 ∨ j = 3 := by omega
  rcases this with rfl | rfl | rfl | rfl
  · exact ⟨by decide +kernel, by show nf _ 65536 5 = 5; exact nf_hit _ _ _ (by decide +kernel), rfl⟩
  · exact ⟨by decide +kernel, by show nf _ (65535 + 1) 5 = 6; rw [nf_miss _ _ _ (by decide +kernel)]; exact nf_hit _ _ _ (by decide +kernel), rfl⟩
  · exact ⟨by decide +kernel, by show nf _ 65536 65535 = 65535; exact nf_hit _ _ _ (by decide +kernel), rfl⟩
  · exact ⟨by decide +kernel, by show nf _ (65535 + 1) 65535 = 0; rw [nf_miss _ _ _ (by decide +kernel)]; exact nf_hit _ _ _ (by decide +kernel), rfl⟩

def AwR (tb : Nat) (ms : List Nat) (b g : Nat) (w : World) (i : Value) (wr : World) : Prop :=
  ∃ j : Nat, j ≤ 4 ∧ i = .int .i64 (j : Nat) ∧ TT wr tb ms 2 b 0 awT ⟨awO.take j, j⟩ ∧ wr.heap[g]? = some (.cells (rowI .u16 awW) 34 (0, 0)) ∧ Chg [] w wr

set_option maxRecDepth 100000 in
set_option maxHeartbeats 4000000 in
theorem awake_any (w : World) : Calls Try.prog 9 #[] w fun e w' => e = .returned (.bool true) ∧ Chg [] w w' := by
  go_enter Try.func9, Try.ntmps9
  go_wp2_with fail
  refine (new_in 2 w (by omega) (by omega)).mono ?_
  rintro e w1 ⟨tb, ms, rfl, hP, htb, hms, hc1⟩
  go_wp2_with fail
  have hrd : D.Reads .u64 (w1.alloc (.cells (rowI .u64 awT) 22)) (.slice (some ⟨w1.heap.size, 0, none⟩) 5 5) awT := D.reads_heap (heap_new _ _)
  have hP1 := hP.same ((Chg.refl [] w1).alloc (.cells (rowI .u64 awT) 22))
  have hc1' := hc1.alloc (.cells (rowI .u64 awT) 22)
  refine (D.new_any 0 _ awT _ (by decide) (by decide) hrd).mono ?_
  rintro e w2 ⟨b, rfl, hbl, hT, hc2⟩
  have hbw : w.heap.size ≤ b := Nat.le_trans hc1'.size hbl
  have hTT : TT w2 tb ms 2 b 0 awT ⟨[], 0⟩ := ⟨hP1.same hc2, hT⟩
  have hC2 := hc1'.trans hc2
  have hS : ∀ y ∈ b :: ms, y ∈ ([] : List Nat) ∨ w.heap.size ≤ y := by
    intro y hy
    rcases List.mem_cons.1 hy with e | e
    · right; omega
    · exact .inr (hms y e)
  have HS := Lib.hid hS
  clear hP hP1 hT hc1 hc1' hc2 hrd hbl htb hms hS
  go_wp2_with fail
  obtain ⟨g, hg⟩ : ∃ g, g = w2.heap.size := ⟨_, rfl⟩
  have hgg : (w2.alloc (.cells (rowI .u16 awW) 34)).heap[g]? = some (.cells (rowI .u16 awW) 34 (0, 0)) := heap_new' _ _ _ hg
  have hTT2 := hTT.same ((Chg.refl [] w2).alloc (.cells (rowI .u16 awW) 34))
  have hC3 := hC2.alloc (.cells (rowI .u16 awW) 34)
  rw [← hg]
  have HGG := Lib.hid hgg
  have HTT := Lib.hid hTT2
  have HC3 := Lib.hid hC3
  clear hg hgg hTT hTT2 hC2 hC3
  go_loopw [28] (AwR tb ms b g w) (fun i _ => 4 - (intOf i).toNat)
  case atStart => exact ⟨0, by omega, rfl, HTT.out, HGG.out, HC3.out⟩
  case round =>
    clear HTT HGG HC3
    obtain ⟨j, hj, rfl, hT, hg, hC⟩ := hrel
    by_cases hlt : j < 4
    · obtain ⟨he, hn, htk⟩ := aw_draw j hlt
      have hcell : wr.cell? ⟨g, j, none⟩ = some (.int .u16 (awW[j]! : Nat)) := by
        rw [cell_of hg, rowI_get _ _ _ (by simpa [awW] using hlt)]
        have : j = 0 ∨ j = 1 ∨ j = 2 ∨ j = 3 := by omega
        rcases this with rfl | rfl | rfl | rfl <;> rfl
      obtain ⟨r, hr⟩ : ∃ r, r = awW[j]! := ⟨_, rfl⟩
      rw [← hr] at hn htk hcell
      have e1 : r = idP 2 (awO.take j) 0 ((j : Int) + 1) (D.drawN 0 awT j) := by unfold idP; rw [if_pos he, hn]
      have e2 : awO.take (j + 1) = drawL 2 (awO.take j) 0 ((j : Int) + 1) (D.drawN 0 awT j) := by unfold drawL; rw [if_pos he, hn, htk]
      have e3 : j + 1 = usedP 2 (awO.take j) 0 ((j : Int) + 1) j := by unfold usedP; rw [if_pos he]
      have E0 : Hid (0 = errP 2 (awO.take j) 0 ((j : Int) + 1)) := Lib.hid he.symm
      have E1 := Lib.hid e1
      have E2 := Lib.hid e2
      have E3 := Lib.hid e3
      have HG := Lib.hid hg
      clear he hn htk hr e1 e2 e3 hg
      go_wp2_with fail
      refine (draw_any tb ms 2 (awO.take j) wr 0 ((j : Int) + 1) b 0 awT j r 0 (j + 1) _ hT.tab hT.tape (by omega) E0 E1 E2 E3).mono ?_
      rintro e w3 ⟨rfl, hP3, ht3, hc3⟩
      have hT3 : TT w3 tb ms 2 b 0 awT ⟨awO.take (j + 1), j + 1⟩ := ⟨hP3, ht3⟩
      have hg3 := hT.odd.keep hc3 HG.out (by decide)
      have HG3 := Lib.hid hg3
      clear hP3 ht3 hg3 E0 E1 E2 E3 HG
      go_wp2
      go_roundw
      case rel => exact ⟨j + 1, by omega, by go_num, hT3, HG3.out, hC.trans_new hc3 HS.out⟩
      case measure => simp [intOf] <;> omega
    · obtain rfl : j = 4 := by omega
      clear hg hlt hj
      go_wp2_with fail
      refine (find_any tb ms 2 (awO.take 4) wr 0 6 2 true hT.tab (by omega) (Lib.hid (by decide +kernel)) (Lib.hid (by decide +kernel))).mono ?_
      rintro e w3 ⟨rfl, rfl⟩
      go_wp2_with fail
      refine (find_any tb ms 2 (awO.take 4) wr 1 6 0 false hT.tab (by omega) (Lib.hid (by decide +kernel)) (Lib.hid (by decide +kernel))).mono ?_
      rintro e w3 ⟨rfl, rfl⟩
      go_wp2_with fail
      refine (free_any tb ms 2 (awO.take 4) wr 2 1 hT.tab (Lib.hid (by decide +kernel)) (by decide)).mono ?_
      rintro e w3 ⟨rfl, hP3, hc3⟩
      have ht3 := hT.tab.btape hT.tape hc3
      have hC3 : Chg [] w w3 := hC.trans_new hc3 (fun y hy => HS.out y (List.mem_cons_of_mem _ hy))
      clear hT hc3 hC
      have e0 : errP 2 (freeA (awO.take 4) 2) 0 9 = 0 := by decide +kernel
      have en : nextO (freeA (awO.take 4) 2) 0 (D.drawN 0 awT 4 % 65536) = 6 := by
        show nf _ (65535 + 1) 5 = 6
        rw [nf_miss _ _ _ (by decide +kernel)]
        exact nf_hit _ _ _ (by decide +kernel)
      have E0 : Hid (0 = errP 2 (freeA (awO.take 4) 2) 0 9) := Lib.hid e0.symm
      have E1 : Hid (6 = idP 2 (freeA (awO.take 4) 2) 0 9 (D.drawN 0 awT 4)) := Lib.hid (by unfold idP; rw [if_pos e0, en])
      have E2 : Hid (freeA (awO.take 4) 2 ++ [⟨0, 9, 6⟩] = drawL 2 (freeA (awO.take 4) 2) 0 9 (D.drawN 0 awT 4)) := Lib.hid (by unfold drawL; rw [if_pos e0, en])
      clear e0 en
      go_wp2_with fail
      refine (draw_any tb ms 2 _ w3 0 9 b 0 awT 4 6 0 _ _ hP3 ht3 (by omega) E0 E1 E2 (Lib.hid rfl)).mono ?_
      rintro e w4 ⟨rfl, hP4, ht4, hc4⟩
      have hC4 := hC3.trans_new hc4 HS.out
      clear hP3 ht3 hC3 hc4 ht4 E0 E1 E2
      go_wp2_with fail
      refine (len_any tb ms 2 _ w4 0 4 hP4 (Lib.hid (by decide +kernel))).mono ?_
      rintro e w5 ⟨rfl, rfl⟩
      go_wp2
      go_ret
      exact ⟨rfl, hC4⟩

end Go.Proofs.Yteehenajchdgaaa
