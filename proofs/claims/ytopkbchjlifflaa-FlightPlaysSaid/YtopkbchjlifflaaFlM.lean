/- The examples of the tables of questions under way, as every statement asks them (awake). -/
import Derived.Test.YtopkbchjlifflaaFlL
namespace Go.Proofs.Ytopkbchjlifflaa
open Go.RowKit Go.Maps

/-- A table of the call's own, beside a block that stays. -/
def FInK (px : Nat) (o : Obj) (w wr : World) (tb n m : Nat) (L : List Fl) : Prop := ∃ F, FT F wr tb n m L ∧ (∀ y ∈ F, w.heap.size ≤ y ∧ y ≠ px) ∧ wr.heap[px]? = some o ∧ Chg [] w wr
theorem FInK.next {px : Nat} {o : Obj} {w wr w2 : World} {tb n m : Nat} {L L2 : List Fl} (h : FInK px o w wr tb n m L) (k : ∀ F, FT F wr tb n m L → FNext F wr w2 tb n m L2) : FInK px o w w2 tb n m L2 := by
  obtain ⟨F, h1, h2, h4, h3⟩ := h
  obtain ⟨F2, k1, k2, k3⟩ := k F h1
  have hp := lt_of_block h4
  refine ⟨F2, k1, fun y hy => ?_, k2.keep h4 (fun hh => (h2 _ hh).2 rfl), h3.trans_new k2 (fun y hy => .inr (h2 y hy).1)⟩
  rcases k3 y hy with e | e
  · exact h2 y e
  · exact ⟨Nat.le_trans h3.size e, by omega⟩
theorem FInK.same {px : Nat} {o : Obj} {w wr w2 : World} {tb n m : Nat} {L : List Fl} (h : FInK px o w wr tb n m L) (hc : Chg [] wr w2) : FInK px o w w2 tb n m L := h.next fun _ hF => FNext.refl hF hc
theorem FInK.chg {px : Nat} {o : Obj} {w wr : World} {tb n m : Nat} {L : List Fl} (h : FInK px o w wr tb n m L) : Chg [] w wr := by obtain ⟨_, _, _, _, h⟩ := h; exact h
section
variable (px : Nat) (o : Obj) (w wr : World) (tb n m : Nat) (L : List Fl)
theorem begin_k (q : Qs) (nx : ByteArray) (ty cl : Int) (r e : Nat) (L' : List Fl) (h : FInK px o w wr tb n m L) (hq : OkQ q) (hnx : nx = bytesV q.name) (hty : ty = (q.ty : Nat)) (hcl : cl = (q.cl : Nat)) (hr : beginF L n q = (L', r, e)) :
    Calls Try.prog 12 #[.pointer (some ⟨tb, 0, none⟩), .agg #[.string nx, .int .u16 ty, .int .u16 cl]] wr fun x w' => x = .returned (.tuple #[.int .i64 (r : Nat), .int .i64 (e : Nat)]) ∧ FInK px o w w' tb n m L' := by
  subst hnx; subst hty; subst hcl
  obtain ⟨F, hF, h2, h4, h3⟩ := h
  refine (begin_any F tb n m L wr q r e L' hF hq (Lib.hid hr)).mono ?_
  rintro x w' ⟨rfl, hN⟩
  have hI : FInK px o w wr tb n m L := ⟨F, hF, h2, h4, h3⟩
  refine ⟨rfl, ?_⟩
  obtain ⟨F2, k1, k2, k3⟩ := hN
  have hp := lt_of_block h4
  refine ⟨F2, k1, fun y hy => ?_, k2.keep h4 (fun hh => (h2 _ hh).2 rfl), h3.trans_new k2 (fun y hy => .inr (h2 y hy).1)⟩
  rcases k3 y hy with e | e
  · exact h2 y e
  · exact ⟨Nat.le_trans h3.size e, by omega⟩
theorem join_k (s : Int) (who : Int) (dx : ByteArray) (x : Wt) (e : Nat) (L' : List Fl) (h : FInK px o w wr tb n m L) (hw : who = x.who) (hd : dx = bytesV x.data) (hr : joinF L m s x = (L', e)) :
    Calls Try.prog 13 #[.pointer (some ⟨tb, 0, none⟩), .int .i64 s, .agg #[.int .i64 who, .string dx]] wr fun r w' => r = .returned (.int .i64 (e : Nat)) ∧ FInK px o w w' tb n m L' := by
  subst hw; subst hd
  obtain ⟨F, hF, h2, h4, h3⟩ := h
  refine (join_any F tb n m L wr s x e L' hF (Lib.hid hr)).mono ?_
  rintro x w' ⟨rfl, F2, k1, k2, k3⟩
  have hp := lt_of_block h4
  refine ⟨rfl, F2, k1, fun y hy => ?_, k2.keep h4 (fun hh => (h2 _ hh).2 rfl), h3.trans_new k2 (fun y hy => .inr (h2 y hy).1)⟩
  rcases k3 y hy with e | e
  · exact h2 y e
  · exact ⟨Nat.le_trans h3.size e, by omega⟩
/-- End, and what is told of it, which is of the call's own. -/
theorem end_k (s : Int) (e : Nat) (L' : List Fl) (ws : List Wt) (h : FInK px o w wr tb n m L) (he : e = errE L s) (hL : L' = endA L s) (hws : ws = goneF L s) :
    Calls Try.prog 15 #[.pointer (some ⟨tb, 0, none⟩), .int .i64 s] wr fun r w' => ∃ v, r = .returned (.tuple #[v, .int .i64 (e : Nat)]) ∧ R.OwnR 38 2 wV wr.heap.size w' v ws ∧ FInK px o w w' tb n m L' ∧ ∀ w2, Chg (blkL v) w' w2 → FInK px o w w2 tb n m L' := by
  obtain ⟨F, hF, h2, h4, h3⟩ := h
  refine (end_any F tb n m L wr s e L' ws hF (Lib.hid he) (Lib.hid hL) (Lib.hid hws)).mono ?_
  rintro r w' ⟨v, rfl, ho, k1, k2⟩
  have hp := lt_of_block h4
  have hc := h3.trans_new k2 (fun y hy => .inr (h2 y hy).1)
  have hb := k2.keep h4 (fun hh => (h2 _ hh).2 rfl)
  refine ⟨v, rfl, ho, ⟨F, k1, h2, hb, hc⟩, fun w2 hc2 => ⟨F, k1.chg hc2 (fun y hy hh => ?_), h2, hc2.keep hb (fun hh => ?_), hc.trans_new hc2 (fun y hy => ?_)⟩⟩
  · have h5 := (ho.blk y (mem_blkL.1 hh)).1
    have h6 := hF.lt y hy
    omega
  · have h5 := (ho.blk px (mem_blkL.1 hh)).1
    omega
  · have h5 := (ho.blk y (mem_blkL.1 hy)).1
    have := h3.size
    right; omega
end

theorem ints_same (v1 v2 : Value) (l : List Nat) (w : World) (h1 : Row .i64 w v1 l) (h2 : Row .i64 w v2 l) (hl : l.length ≤ 1000000) :
    Calls Try.prog 22 #[v1, v2] w fun e w' => e = .returned (.bool true) ∧ Chg [] w w' := by
  refine (ints_any v1 v2 l l w h1 h2 hl hl).mono ?_
  rintro e w' ⟨rfl, n, rfl⟩
  exact ⟨by simp, (Chg.refl _ _).drewN n⟩
theorem row_chg {k : IntKind} {w w' : World} {v : Value} {l : List Nat} (h : Row k w v l) (hc : Chg [] w w') : Row k w' v l := by
  rcases h with h | ⟨r, c, h1, h2⟩
  · exact .inl h
  · exact .inr ⟨r, c, h1, fun i hi => hc.cell (h2 i hi) (by simp)⟩
theorem row_k {px : Nat} {o : Obj} {w wr : World} {tb n m : Nat} {L : List Fl} (h : FInK px o w wr tb n m L) (l : List Nat) (hl : l = slotsF L) :
    Calls Try.prog 18 #[.pointer (some ⟨tb, 0, none⟩)] wr fun e w' => ∃ a c, e = .returned (.slice a l.length c) ∧ Row .i64 w' (.slice a l.length c) l ∧ Chg [] wr w' := by
  subst hl
  obtain ⟨F, hF, _⟩ := h
  refine (row_any F tb n m L wr hF).mono ?_
  rintro e w' ⟨v, rfl, ho, hc⟩
  obtain ⟨a, c, rfl⟩ := ho.len
  exact ⟨a, c, rfl, row_own ho, hc⟩
theorem waits_k {px : Nat} {o : Obj} {w wr : World} {tb n m : Nat} {L : List Fl} (h : FInK px o w wr tb n m L) (s : Int) (k : Nat) (hk : k = waitsF L s) :
    Calls Try.prog 20 #[.pointer (some ⟨tb, 0, none⟩), .int .i64 s] wr fun e w' => e = .returned (.int .i64 (k : Nat)) ∧ wr = w' := by
  obtain ⟨F, hF, _⟩ := h
  exact waits_any F tb n m L wr s k hF (Lib.hid hk)
def qEx : Qs := ⟨[2, 101, 120, 0], 1, 1⟩
def qEX : Qs := ⟨[2, 69, 88, 0], 1, 1⟩
def qEx6 : Qs := ⟨[2, 101, 120, 0], 28, 1⟩
def qRoot : Qs := ⟨[0], 1, 1⟩
theorem okq (q : Qs) (h : q.name.length ≤ 255 ∧ q.ty < 65536 ∧ q.cl < 65536) : OkQ q := ⟨by unfold maxLen; omega, h.2.1, h.2.2⟩
def aw1 : List Fl := [⟨0, qEx, []⟩]
def aw2 : List Fl := [⟨0, qEx, []⟩, ⟨1, qEx6, []⟩]
def aw3 : List Fl := [⟨0, qEx, [⟨7, [100]⟩]⟩, ⟨1, qEx6, []⟩]
def aw4 : List Fl := [⟨1, qEx6, []⟩]
def aw5 : List Fl := [⟨1, qEx6, []⟩, ⟨0, qEx, []⟩]
theorem aw_1 : beginF [] 2 qEx = (aw1, 0, 0) := by kernel_rfl
theorem aw_1b : beginF aw1 2 qEX = (aw1, 0, 7) := by kernel_rfl
theorem aw_2 : beginF aw1 2 qEx6 = (aw2, 1, 0) := by kernel_rfl
theorem aw_2b : beginF aw2 2 qRoot = (aw2, 0, 9) := by kernel_rfl
theorem aw_3 : joinF aw2 1 0 ⟨7, [100]⟩ = (aw3, 0) := by kernel_rfl
theorem aw_3b : joinF aw3 1 0 ⟨8, []⟩ = (aw3, 9) := by kernel_rfl
theorem aw_4 : (0 : Nat) = errE aw3 0 := by kernel_rfl
theorem aw_4b : aw4 = endA aw3 0 := by kernel_rfl
theorem aw_4c : ([⟨7, [100]⟩] : List Wt) = goneF aw3 0 := by kernel_rfl
theorem aw_5 : beginF aw4 2 qEx = (aw5, 0, 0) := by kernel_rfl
set_option maxRecDepth 100000 in
set_option maxHeartbeats 4000000 in
theorem awake_any (w : World) : Calls Try.prog 10 #[] w fun e w' => e = .returned (.bool true) ∧ Chg [] w w' := by
  go_enter Try.func10, Try.ntmps10
  go_wp2_with fail
  refine (new_in 2 1 w (by omega) (by omega) (by omega) (by omega)).mono ?_
  rintro e w1 ⟨tb, F, rfl, hF, hlo, hc1⟩
  have hflt := hF.lt
  obtain ⟨px, hpx⟩ : ∃ px, px = w1.heap.size := ⟨_, rfl⟩
  have hI : FInK px (.cells #[.string ⟨#[2, 101, 120, 0]⟩, .int .u16 1, .int .u16 1] 25) w (w1.alloc (.cells #[.string ⟨#[2, 101, 120, 0]⟩, .int .u16 1, .int .u16 1] 25)) tb 2 1 [] :=
    ⟨F, hF.same ((Chg.refl _ _).alloc _), fun y hy => ⟨hlo y hy, by have := hflt y hy; omega⟩, heap_new' _ _ _ hpx, hc1.alloc _⟩
  obtain ⟨W1, hW1⟩ : ∃ W1, W1 = w1.alloc (.cells #[.string ⟨#[2, 101, 120, 0]⟩, .int .u16 1, .int .u16 1] 25) := ⟨_, rfl⟩
  rw [← hW1] at hI
  have HI := Lib.hid hI
  have HW1 := Lib.hid hW1
  clear hF hlo hc1 hflt hI hW1
  go_wp2_with fail
  rw [← HW1.out, ← hpx]
  clear HW1 hpx
  refine (begin_k px _ w W1 tb 2 1 [] qEx _ _ _ 0 0 aw1 HI.out (okq _ (by decide)) rfl rfl rfl aw_1).mono ?_
  rintro e w2 ⟨rfl, h2⟩
  have HI := Lib.hid h2
  clear h2
  go_wp2_with fail
  refine (begin_k px _ w w2 tb 2 1 _ qEX _ _ _ _ _ _ HI.out (okq _ (by decide)) rfl rfl rfl aw_1b).mono ?_
  rintro e w3 ⟨rfl, h2⟩
  have HI := Lib.hid h2
  clear h2
  go_wp2_with fail
  refine (begin_k px _ w w3 tb 2 1 _ qEx6 _ _ _ _ _ _ HI.out (okq _ (by decide)) rfl rfl rfl aw_2).mono ?_
  rintro e w4 ⟨rfl, h2⟩
  have HI := Lib.hid h2
  clear h2
  go_wp2_with fail
  refine (begin_k px _ w w4 tb 2 1 _ qRoot _ _ _ _ _ _ HI.out (okq _ (by decide)) rfl rfl rfl aw_2b).mono ?_
  rintro e w5 ⟨rfl, h2⟩
  have HI := Lib.hid h2
  clear h2
  go_wp2_with fail
  refine (join_k px _ w w5 tb 2 1 _ 0 7 _ ⟨7, [100]⟩ _ _ HI.out rfl rfl aw_3).mono ?_
  rintro e w6 ⟨rfl, h2⟩
  have HI := Lib.hid h2
  clear h2
  go_wp2_with fail
  refine (join_k px _ w w6 tb 2 1 _ 0 8 _ ⟨8, []⟩ _ _ HI.out rfl rfl aw_3b).mono ?_
  rintro e w7 ⟨rfl, h2⟩
  have HI := Lib.hid h2
  clear h2
  go_wp2_with fail
  refine (end_k px _ w w7 tb 2 1 _ 0 _ _ _ HI.out aw_4 aw_4b aw_4c).mono ?_
  rintro e w8 ⟨v, rfl, ho8, h2, hv8⟩
  obtain ⟨ea, ec, rfl⟩ := ho8.len
  have HI := Lib.hid h2
  have HO8 := Lib.hid ho8
  have HV8 := Lib.hid hv8
  clear h2 ho8 hv8
  go_wp2_with fail
  refine (told_any w7.heap.size (.slice ea 1 ec) [⟨7, [100]⟩] w8 HO8.out (by decide)).mono ?_
  rintro e w9 ⟨v9, rfl, ho9, hc9⟩
  have HI := Lib.hid (HV8.out w9 hc9)
  have hrd9 := rdW_own ho9
  obtain ⟨ta, tc, rfl⟩ := ho9.len
  have HRD9 := Lib.hid hrd9
  clear ho9 hc9 HO8 HV8 hrd9
  go_wp2_with fail
  refine (waiters_same _ _ [⟨7, [100]⟩] _ (HRD9.out.chg ((Chg.refl [] w9).alloc _)) (.inr ⟨w9.heap.size, 1, rfl, fun i hi j u hu => ?_⟩) (fun x hx => ?_) (by decide)).mono ?_
  · have : i = 0 := by simp at hi; exact hi
    subst this
    rw [Nat.zero_mul, Nat.zero_add, cell_of (heap_new _ _)]
    match j, hu with
    | 0, hu => exact hu
    | 1, hu => exact hu
    | j + 2, hu => simp [wV] at hu
  · simp at hx
    subst hx
    exact ⟨by decide, by decide⟩
  rintro e w10 ⟨rfl, hc10⟩
  have HI := Lib.hid (HI.out.same (((Chg.refl [] w9).alloc _).trans hc10))
  clear hc10
  go_wp2_with fail
  refine (row_k HI.out [1] (by kernel_rfl)).mono ?_
  rintro e w11 ⟨ua, uc, rfl, hr11, hc11⟩
  have HI := Lib.hid (HI.out.same hc11)
  have HR11 := Lib.hid hr11
  clear hr11 hc11
  go_wp2_with fail
  refine (ints_same _ _ [1] _ (row_chg HR11.out ((Chg.refl [] w11).alloc _)) (.inr ⟨w11.heap.size, 1, rfl, fun i hi => ?_⟩) (by decide)).mono ?_
  · have : i = 0 := by simp at hi; exact hi
    subst this
    rw [cell_of (heap_new _ _)]
    rfl
  rintro e w12 ⟨rfl, hc12⟩
  have h12 := HI.out.same (((Chg.refl [] w11).alloc _).trans hc12)
  have hpx : w12.heap[px]? = some (.cells #[.string ⟨#[2, 101, 120, 0]⟩, .int .u16 1, .int .u16 1] 25 (0, 0)) := by obtain ⟨_, _, _, h, _⟩ := h12; exact h
  have k0 : w12.cell? ⟨px, 0, none⟩ = some (.string ⟨#[2, 101, 120, 0]⟩) := cell_of hpx
  have k1 : w12.cell? ⟨px, 1, none⟩ = some (.int .u16 1) := cell_of hpx
  have k2 : w12.cell? ⟨px, 2, none⟩ = some (.int .u16 1) := cell_of hpx
  have HI := Lib.hid h12
  clear h12 hc12 hpx
  go_wp2_with fail
  refine (begin_k px _ w w12 tb 2 1 _ qEx _ _ _ _ _ _ HI.out (okq _ (by decide)) rfl rfl rfl aw_5).mono ?_
  rintro e w13 ⟨rfl, h2⟩
  have HI := Lib.hid h2
  clear h2 k0 k1 k2
  go_wp2_with fail
  refine (row_k HI.out [1, 0] (by kernel_rfl)).mono ?_
  rintro e w14 ⟨xa, xc, rfl, hr14, hc14⟩
  have HI := Lib.hid (HI.out.same hc14)
  have HR14 := Lib.hid hr14
  clear hr14 hc14
  go_wp2_with fail
  refine (ints_same _ _ [1, 0] _ (row_chg HR14.out ((Chg.refl [] w14).alloc _)) (.inr ⟨w14.heap.size, 2, rfl, fun i hi => ?_⟩) (by decide)).mono ?_
  · rw [cell_of (heap_new _ _)]
    match i, hi with
    | 0, _ => rfl
    | 1, _ => rfl
  rintro e w15 ⟨rfl, hc15⟩
  have HI := Lib.hid (HI.out.same (((Chg.refl [] w14).alloc _).trans hc15))
  clear hc15
  go_wp2_with fail
  refine (waits_k HI.out 0 0 (by kernel_rfl)).mono ?_
  rintro e w16 ⟨rfl, rfl⟩
  have hfin := HI.out.chg
  go_wp2
  go_ret
  exact ⟨rfl, hfin⟩

end Go.Proofs.Ytopkbchjlifflaa
