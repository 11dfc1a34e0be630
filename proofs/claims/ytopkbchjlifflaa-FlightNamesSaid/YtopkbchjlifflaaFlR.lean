/- Tables that nobody made; the lists of FlightNames. -/
import Derived.Test.YtopkbchjlifflaaFlN
namespace Go.Proofs.Ytopkbchjlifflaa
open Go.RowKit Go.Maps

set_option maxRecDepth 100000 in
set_option maxHeartbeats 4000000 in
theorem begin_fresh (fb : Nat) (w : World) (q : Qs) (hq : OkQ q) (hm : mayB q.name = true) (hb : w.heap[fb]? = some (.cells #[.int .i64 0, .slice none 0 0, .slice none 0 0, .map none] 68 (0, 0))) :
    Calls Try.prog 12 #[.pointer (some ⟨fb, 0, none⟩), .agg #[.string (bytesV q.name), .int .u16 (q.ty : Nat), .int .u16 (q.cl : Nat)]] w fun x w' => x = .returned (.tuple #[.int .i64 0, .int .i64 9]) ∧ Chg [] w w' := by
  have hs : (bytesV q.name).size ≤ maxLen := hq.name
  obtain ⟨sx, hsx⟩ : ∃ sx, sx = bytesV q.name := ⟨_, rfl⟩
  have hmay : ∀ w, Calls Try.prog 34 #[.string sx] w fun e w' => e = .returned (.bool true) ∧ w = w' := fun w => may_any sx true w (by rw [hsx]; exact hs) (Lib.hid (by rw [← hm, hsx]; rfl))
  have hfo : ∀ W, Calls Try.prog 35 #[.agg #[.string sx, .int .u16 (q.ty : Nat), .int .u16 (q.cl : Nat)]] W fun e w' => e = .returned (.agg #[.string (bytesV (foldQ q).name), .int .u16 ((foldQ q).ty : Nat), .int .u16 ((foldQ q).cl : Nat)]) ∧ Chg [] W w' := fun W => by rw [hsx]; exact folded_any q (foldQ q) W hq.name (Lib.hid rfl)
  rw [← hsx]
  obtain ⟨fq, hfq⟩ : ∃ fq, fq = foldQ q := ⟨_, rfl⟩
  have hokf : OkQ fq := by rw [hfq]; exact okQ_fold hq
  rw [← hfq] at hfo
  have c3 : ∀ W, Chg [] w W → W.cell? ⟨fb, 3, none⟩ = some (.map none) := fun W hc => cell_of (hc.keep hb (by simp))
  have c1 : ∀ W, Chg [] w W → W.cell? ⟨fb, 1, none⟩ = some (.slice none 0 0) := fun W hc => cell_of (hc.keep hb (by simp))
  have hlk : ∀ W, (Instr.lookup 66 (.map none) (qA fq) true).run Try.prog W = .ok (.tuple #[.int .i64 0, .bool false]) W := fun W => look_nilQ W hokf
  unfold qA at hlk
  clear hsx hs hfq hokf hq hm hb
  obtain ⟨p0, hp0⟩ : ∃ p0, p0 = w.heap.size := ⟨_, rfl⟩
  go_enter Try.func12, Try.ntmps12
  go_wp2_with fail
  rw [← hp0]
  refine calls_abs ?_
  intro W hW
  have b0 : W.heap[p0]? = some (.cells #[.string sx, .int .u16 (q.ty : Nat), .int .u16 (q.cl : Nat)] 25 (0, 0)) := by rw [hW]; exact heap_new' _ _ _ hp0
  have hcW : Chg [] w W := by rw [hW]; exact (Chg.refl _ _).alloc _
  have l0 : W.cell? ⟨p0, 0, none⟩ = some (.string sx) := cell_of b0
  have l1 : W.cell? ⟨p0, 1, none⟩ = some (.int .u16 (q.ty : Nat)) := cell_of b0
  have l2 : W.cell? ⟨p0, 2, none⟩ = some (.int .u16 (q.cl : Nat)) := cell_of b0
  have f0 : ∀ i, W.frozen? ⟨p0, i, none⟩ = false := fun i => free_of b0
  have hl0 : w.heap.size ≤ p0 := by omega
  clear hW hp0
  refine (hmay _).mono ?_
  rintro e w1 ⟨rfl, rfl⟩
  clear hmay
  go_wp2_with fail
  refine (hfo _).mono ?_
  rintro e w2 ⟨rfl, hc2⟩
  have b2 := hc2.keep b0 (by simp)
  have m0 : w2.cell? ⟨p0, 0, none⟩ = some (.string sx) := cell_of b2
  have m1 : w2.cell? ⟨p0, 1, none⟩ = some (.int .u16 (q.ty : Nat)) := cell_of b2
  have m2 : w2.cell? ⟨p0, 2, none⟩ = some (.int .u16 (q.cl : Nat)) := cell_of b2
  have f2 : ∀ i, w2.frozen? ⟨p0, i, none⟩ = false := fun i => free_of b2
  have hC3 : Chg [] w (((w2.setCell ⟨p0, 0, none⟩ (.string (bytesV fq.name))).setCell ⟨p0, 1, none⟩ (.int .u16 (fq.ty : Nat))).setCell ⟨p0, 2, none⟩ (.int .u16 (fq.cl : Nat))) := (((hcW.trans hc2).setCell (.inr hl0) _).setCell (.inr hl0) _).setCell (.inr hl0) _
  have HM := Lib.hid (set3 (a := .string (bytesV fq.name)) (b := .int .u16 (fq.ty : Nat)) (c := .int .u16 (fq.cl : Nat)) m0 m1 m2)
  clear b0 b2 l0 l1 l2 f0 hcW hc2 hfo
  go_wp2_with fail
  refine wp_abs ?_
  intro w3 hw3
  rw [← hw3] at HM hC3
  obtain ⟨n0, n1, n2⟩ := HM.out
  have k3 := c3 _ hC3
  have k4 := fun k => hlk (w3.drewN k)
  clear hw3 m0 m1 m2 f2 HM c3 hlk
  go_quiet (fail)
  generalize hw4 : w3.drewN nq = w4
  have hC4 : Chg [] w w4 := by rw [← hw4]; exact hC3.drewN _
  have g3 := c1 w4 hC4
  clear hw4 hC3 n0 n1 n2 k3 k4 c1
  go_wp2_with fail
  go_loop [32] (fun i => i = .int .i64 0) (fun _ => 0)
  case atStart => rfl
  case round =>
    subst hrel
    go_wp2
    go_ret2
    exact ⟨rfl, hC4⟩
theorem len_fresh (fb : Nat) (w : World) (hb : w.heap[fb]? = some (.cells #[.int .i64 0, .slice none 0 0, .slice none 0 0, .map none] 68 (0, 0))) :
    Calls Try.prog 26 #[.pointer (some ⟨fb, 0, none⟩)] w fun e w' => e = .returned (.int .i64 0) ∧ w = w' := by
  have c2 : w.cell? ⟨fb, 2, none⟩ = some (.slice none 0 0) := cell_of hb
  clear hb
  go_enter Try.func26, Try.ntmps26
  go_wp2
  go_ret
  exact ⟨rfl, rfl⟩
/-- The first i questions; the first k who wait at 5. -/
def nmL (i : Nat) : List Fl := (List.range i).map fun s => ⟨s, ⟨[0], s, 0⟩, []⟩
theorem nmL_succ (i : Nat) : nmL (i + 1) = nmL i ++ [⟨i, ⟨[0], i, 0⟩, []⟩] := by simp [nmL, List.range_succ]
theorem nmL_mem {i : Nat} {f : Fl} (h : f ∈ nmL i) : f.slot < i ∧ f.q = ⟨[0], f.slot, 0⟩ ∧ f.ws = [] := by
  obtain ⟨s, hs, rfl⟩ := List.mem_map.1 h
  exact ⟨by simpa using hs, rfl, rfl⟩
theorem nmL_used {i s : Nat} (h : s < i) : usedF (nmL i) s = true := usedF_iff.2 ⟨⟨s, ⟨[0], s, 0⟩, []⟩, List.mem_map.2 ⟨s, by simpa using h, rfl⟩, rfl⟩
theorem nmL_free {i s : Nat} (h : i ≤ s) : usedF (nmL i) s = false := by
  cases hu : usedF (nmL i) s with
  | false => rfl
  | true =>
    obtain ⟨f, hf, e⟩ := usedF_iff.1 hu
    have := (nmL_mem hf).1
    omega
theorem may0 : mayB [0] = true := by kernel_rfl
theorem fold0 : foldL [0] = [0] := by kernel_rfl
theorem nmL_begin (i : Nat) (h : i < 32) : beginF (nmL i) 32 ⟨[0], i, 0⟩ = (nmL (i + 1), i, 0) := by
  have hf : foldQ ⟨[0], i, 0⟩ = ⟨[0], i, 0⟩ := by unfold foldQ; simp only [fold0]
  have hn : findF (nmL i) ⟨[0], i, 0⟩ = none := findF_none fun f hf e => by
    have h1 := nmL_mem hf
    rw [h1.2.1] at e
    injection e with _ e2
    omega
  have hfr : freeF (nmL i) 32 32 0 = some i := by
    rcases freeF_spec (nmL i) 32 32 0 (by omega) with ⟨_, h2⟩ | ⟨a, h1, _, h3, h4, h5⟩
    · have := h2 i (by omega) h
      rw [nmL_free (Nat.le_refl i)] at this
      cases this
    · rcases Nat.lt_trichotomy a i with e | e | e
      · rw [nmL_used e] at h4; cases h4
      · rw [h1, e]
      · have := h5 i (by omega) e
        rw [nmL_free (Nat.le_refl i)] at this
        cases this
  unfold beginF
  simp only [may0, if_true, hf, hn, hfr, nmL_succ]
  rfl
def nmW (k : Nat) : List Fl := setW (nmL 32) 5 (List.replicate k ⟨65535, []⟩)
theorem nmW_0 : nmW 0 = nmL 32 := by kernel_rfl
theorem setW_setW (L : List Fl) (s : Nat) (a b : List Wt) : setW (setW L s a) s b = setW L s b := by
  unfold setW
  rw [List.map_map]
  apply List.map_congr_left
  intro f _
  simp only [Function.comp]
  by_cases h : f.slot = s <;> simp [h]
theorem nmW_join (k : Nat) (h : k < 16) : joinF (nmW k) 16 5 ⟨65535, []⟩ = (nmW (k + 1), 0) := by
  have hu : usedF (nmW k) 5 = true := by unfold nmW; rw [setW_used]; exact nmL_used (by omega)
  have hw : wsF (nmW k) 5 = List.replicate k ⟨65535, []⟩ := setW_ws_same _ (nmL_used (by omega))
  have huse : useF (nmW k) 5 = true := by unfold useF; exact hu
  unfold joinF
  rw [huse, if_pos rfl, if_neg (by simp)]
  have e5 : (5 : Int).toNat = 5 := rfl
  rw [e5, hw, if_neg (by simp; omega)]
  unfold nmW
  rw [setW_setW, List.replicate_succ']
def nmF : List Fl := nmW 16
theorem nm_a : beginF nmF 32 ⟨[0], 99, 0⟩ = (nmF, 0, 9) := by kernel_rfl
theorem nm_b : beginF nmF 32 ⟨[0], 5, 0⟩ = (nmF, 0, 7) := by kernel_rfl
theorem nm_c : beginF nmF 32 ⟨[], 5, 0⟩ = (nmF, 0, 1) := by kernel_rfl
theorem nm_d1 : (6 : Nat) = errE nmF 32 := by kernel_rfl
theorem nm_d2 : nmF = endA nmF 32 := by kernel_rfl
theorem nm_d3 : ([] : List Wt) = goneF nmF 32 := by kernel_rfl
theorem nm_e1 : (5 : Nat) = findAt nmF ⟨[0], 5, 0⟩ := by kernel_rfl
theorem nm_e2 : true = findIs nmF ⟨[0], 5, 0⟩ := by kernel_rfl
theorem nm_f1 : (0 : Nat) = findAt nmF ⟨[0], 5, 1⟩ := by kernel_rfl
theorem nm_f2 : false = findIs nmF ⟨[0], 5, 1⟩ := by kernel_rfl
theorem nm_g1 : (0 : Nat) = findAt nmF ⟨[], 5, 0⟩ := by kernel_rfl
theorem nm_g2 : false = findIs nmF ⟨[], 5, 0⟩ := by kernel_rfl
theorem nm_h1 : joinF nmF 16 5 ⟨0, []⟩ = (nmF, 9) := by kernel_rfl
theorem nm_h2 : joinF nmF 16 5 ⟨-1, []⟩ = (nmF, 1) := by kernel_rfl
theorem nm_h3 : joinF nmF 16 6 ⟨65536, []⟩ = (nmF, 1) := by kernel_rfl
theorem nm_h4 : joinF nmF 16 32 ⟨-1, []⟩ = (nmF, 6) := by kernel_rfl
theorem nm_h5 : joinF nmF 16 (-1) ⟨0, []⟩ = (nmF, 6) := by kernel_rfl
theorem nm_w1 : (16 : Nat) = waitsF nmF 5 := by kernel_rfl
theorem nm_w2 : (0 : Nat) = waitsF nmF (-1) := by kernel_rfl

section
variable (P : List (Nat × Obj)) (w wr : World) (tb n m : Nat) (L : List Fl)
theorem begin_q (q : Qs) (nx : ByteArray) (ty cl : Int) (r e : Nat) (L' : List Fl) (h : FInP P w wr tb n m L) (hq : OkQ q) (hnx : nx = bytesV q.name) (hty : ty = (q.ty : Nat)) (hcl : cl = (q.cl : Nat)) (hr : beginF L n q = (L', r, e)) :
    Calls Try.prog 12 #[.pointer (some ⟨tb, 0, none⟩), .agg #[.string nx, .int .u16 ty, .int .u16 cl]] wr fun x w' => x = .returned (.tuple #[.int .i64 (r : Nat), .int .i64 (e : Nat)]) ∧ FInP P w w' tb n m L' := by
  subst hnx; subst hty; subst hcl
  exact begin_p P w wr tb n m L q r e L' h hq hr
theorem join_q (s : Int) (who : Int) (dx : ByteArray) (x : Wt) (e : Nat) (L' : List Fl) (h : FInP P w wr tb n m L) (hw : who = x.who) (hd : dx = bytesV x.data) (hr : joinF L m s x = (L', e)) :
    Calls Try.prog 13 #[.pointer (some ⟨tb, 0, none⟩), .int .i64 s, .agg #[.int .i64 who, .string dx]] wr fun r w' => r = .returned (.int .i64 (e : Nat)) ∧ FInP P w w' tb n m L' := by
  subst hw; subst hd
  exact join_p P w wr tb n m L s x e L' h hr
theorem find_q {P : List (Nat × Obj)} {w wr : World} {tb n m : Nat} {L : List Fl} (q : Qs) (nx : ByteArray) (ty cl : Int) (a : Nat) (b : Bool) (h : FInP P w wr tb n m L) (hq : OkQ q) (hnx : nx = bytesV q.name) (hty : ty = (q.ty : Nat)) (hcl : cl = (q.cl : Nat)) (ha : a = findAt L q) (hb : b = findIs L q) :
    Calls Try.prog 21 #[.pointer (some ⟨tb, 0, none⟩), .agg #[.string nx, .int .u16 ty, .int .u16 cl]] wr fun e w' => e = .returned (.tuple #[.int .i64 (a : Nat), .bool b]) ∧ Chg [] wr w' := by
  subst hnx; subst hty; subst hcl
  exact find_p h q a b hq ha hb
end

end Go.Proofs.Ytopkbchjlifflaa
