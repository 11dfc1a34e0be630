/- The walks of the document's table of IDs: New, Find, Len, free, Free, FreeAt, Copy. -/
import Derived.Test.YteehenajchdgaaaAwake29
import Derived.Test.YteehenajchdgaaaRecRow
import Derived.Deep.RegionLaw
namespace Go.Proofs.Yteehenajchdgaaa
open Go.RowKit Go.Maps

theorem Try.elemOut : (Try.prog.info? 81).map (fun i => (i.zero, i.size, i.bytes)) = some (some (.agg #[.int .i64 0, .int .i64 0, .int .u16 0]), 3, 24) := by kernel_rfl
/-- The cells of one that is out. -/
def ouV (o : Ou) : List Value := [.int .i64 o.u, .int .i64 o.slot, .int .u16 (o.id : Nat)]
theorem ouV_len (o : Ou) : (ouV o).length = 3 := rfl
theorem ouV_one (l : List Ou) : ∀ u ∈ l.flatMap ouV, u.oneCell' = true := by
  intro u hu
  obtain ⟨x, _, hx⟩ := List.mem_flatMap.1 hu
  simp [ouV] at hx
  rcases hx with rfl | rfl | rfl <;> rfl
theorem cell_three_new (w : World) (a b c : Value) (t : TypeId) : ∀ j u, [a, b, c][j]? = some u → (w.alloc (.cells #[a, b, c] t)).cell? ((⟨w.heap.size, 0, none⟩ : Addr).add j) = some u := by
  intro j u hj
  match j, hj with
  | 0, hj => simp at hj; subst hj; simp [Addr.add]
  | 1, hj => simp at hj; subst hj; simp [Addr.add]
  | 2, hj => simp at hj; subst hj; simp [Addr.add]
abbrev OwnO (base : Nat) (w : World) (v : Value) (l : List Ou) : Prop := R.OwnR 81 3 ouV base w v l
/-- The block q is the document's table. -/
def RTab (w : World) (q n : Nat) (L : List Ou) : Prop :=
  L.length ≤ 1000 ∧ ∃ v, w.heap[q]? = some (.cells #[.int .i64 (n : Nat), v] 79 (0, 0)) ∧ OwnO 0 w v L
theorem RTab.lt {w : World} {q n : Nat} {L : List Ou} (h : RTab w q n L) : q < w.heap.size := by obtain ⟨_, v, h1, _⟩ := h; exact lt_of_block h1
theorem RTab.chg {S : List Nat} {w w' : World} {q n : Nat} {L : List Ou} (h : RTab w q n L) (hc : Chg S w w') (ho : Odd S w) (hq : q ∉ S) : RTab w' q n L := by
  obtain ⟨h0, v, h1, h2⟩ := h
  refine ⟨h0, v, hc.keep h1 hq, h2.chg hc ?_⟩
  intro g hg hs
  obtain ⟨_, _, c, hh⟩ := h2.blk g hg
  rcases ho g hs _ _ _ hh with e | e | e <;> exact absurd e (by decide)
theorem RTab.same {w w' : World} {q n : Nat} {L : List Ou} (h : RTab w q n L) (hc : Chg [] w w') : RTab w' q n L := h.chg hc (odd_nil w) (by simp)
theorem RTab.odd {w : World} {q n : Nat} {L : List Ou} (h : RTab w q n L) : Odd [q] w := by
  obtain ⟨_, v, h1, _⟩ := h
  exact odd_one h1 (.inr (.inr rfl))
theorem rtape_chg {S : List Nat} {w w' : World} {b seed : Nat} {l : List Nat} {n : Nat} (h : D.RTape w b seed l n) (hc : Chg S w w') (ho : Odd S w) (hb : b ∉ S) : D.RTape w' b seed l n := by
  obtain ⟨v, h1, h2⟩ := h
  refine ⟨v, hc.keep h1 hb, D.nums_chg h2 hc ?_⟩
  intro k hk c f e
  rcases ho _ hk _ _ _ e with e | e | e <;> exact absurd e (by decide)
theorem rtape_odd {w : World} {b seed : Nat} {l : List Nat} {n : Nat} (h : D.RTape w b seed l n) : Odd [b] w := by
  obtain ⟨v, h1, _⟩ := h
  exact odd_one h1 (.inr (.inl rfl))

theorem rnew_out (u : Int) (w : World) (hu : u < 1 ∨ 9 < u) :
    Calls Try.prog 21 #[.int .i64 u] w fun e w' => e = .returned (.tuple #[.pointer none, .int .i64 1]) ∧ w = w' := by
  by_cases h0 : u < 1
  · clear hu
    go_enter Try.func21, Try.ntmps21
    go_wp2
    go_ret2
    exact ⟨rfl, rfl⟩
  · have h9 : 9 < u := by omega
    clear hu
    go_enter Try.func21, Try.ntmps21
    go_wp2
    go_ret2
    exact ⟨rfl, rfl⟩
theorem rnew_in (n : Nat) (w : World) (h1 : 1 ≤ n) (h9 : n ≤ 9) :
    Calls Try.prog 21 #[.int .i64 (n : Nat)] w fun e w' => e = .returned (.tuple #[.pointer (some ⟨w.heap.size, 0, none⟩), .int .i64 0]) ∧ RTab w' w.heap.size n [] ∧ Chg [] w w' := by
  go_enter Try.func21, Try.ntmps21
  go_wp2
  go_ret2
  exact ⟨rfl, ⟨by simp, _, heap_new _ _, R.OwnR.nil _ _ _ _ _⟩, (Chg.refl _ _).alloc _⟩

section
variable (q n : Nat) (L : List Ou) (w : World)
theorem rfind_any (u : Int) (x : Nat) (a : Int) (b : Bool) (h : RTab w q n L) (hok : OkO n L) (ha : Hid (a = atO L u x)) (hb : Hid (b = hasO L u x)) :
    Calls Try.prog 36 #[.pointer (some ⟨q, 0, none⟩), .int .i64 u, .int .u16 (x : Nat)] w fun e w' => e = .returned (.tuple #[.int .i64 a, .bool b]) ∧ w = w' := by
  obtain ⟨h0, v, h1, h2⟩ := h
  obtain ⟨av, cv, rfl⟩ := h2.len
  have k1 : w.cell? ⟨q, 0 + 1, none⟩ = some (.slice av L.length cv) := cell_of h1
  have H2 := Lib.hid h2
  have HOK := Lib.hid hok
  clear h1 h2 hok
  go_enter Try.func36, Try.ntmps36
  go_wp2_with fail
  go_loop [8] (fun i => ∃ j : Nat, j ≤ L.length ∧ i = .int .i64 (j : Nat) ∧ ∀ o ∈ L.take j, ¬(o.u = u ∧ o.id = x)) (fun i => L.length - (intOf i).toNat)
  case atStart => exact ⟨0, Nat.zero_le _, rfl, by simp⟩
  case round =>
    obtain ⟨j, hj, rfl, hno⟩ := hrel
    have HNO := Lib.hid hno
    clear hno
    by_cases hlt : j < L.length
    · obtain ⟨g, c, hv, _, _, hx⟩ := H2.out.cells ouV_len (by omega)
      injection hv with hv1 _ _
      subst hv1
      obtain ⟨o, hoj⟩ : ∃ o, o = L[j] := ⟨_, rfl⟩
      have d0 := hx j hlt 0 (.int .i64 o.u) (by rw [← hoj]; rfl)
      have d1 := hx j hlt 1 (.int .i64 o.slot) (by rw [← hoj]; rfl)
      have d2 := hx j hlt 2 (.int .u16 (o.id : Nat)) (by rw [← hoj]; rfl)
      have htk : L.take (j + 1) = L.take j ++ [o] := by rw [List.take_succ_eq_append_getElem hlt, ← hoj]
      have hom : o ∈ L := by rw [hoj]; exact List.getElem_mem hlt
      have HTK := Lib.hid htk
      have HOM := Lib.hid hom
      rw [Nat.add_zero] at d0
      clear hx hoj htk hom H2
      by_cases hu : o.u = u
      · have t1 : (o.u == u) = true := by simpa using hu
        by_cases hi : o.id = x
        · have t2 : ((o.id : Int) == (x : Int)) = true := by simp; omega
          have t2n : (o.id == x) = true := by simpa using hi
          have ea : a = o.slot := by rw [ha.out, ← hu, ← hi]; exact HOK.out.at HOM.out
          have eb : b = true := by rw [hb.out]; exact hasO_iff.2 ⟨o, HOM.out, hu, hi⟩
          subst ea; subst eb
          clear hu hi ha hb HTK HNO HOM HOK
          go_wp2
          go_ret2
          exact ⟨rfl, rfl⟩
        · have t2 : ((o.id : Int) == (x : Int)) = false := by simp; omega
          have t2n : (o.id == x) = false := by simpa using hi
          have HI := Lib.hid hi
          clear hi hu
          go_wp2
          go_round
          case rel =>
            refine ⟨j + 1, by omega, by go_num, ?_⟩
            rw [HTK.out]
            intro y hy
            rcases List.mem_append.1 hy with e | e
            · exact HNO.out y e
            · simp at e; subst e; exact fun hh => HI.out hh.2
          case measure => simp [intOf] <;> omega
      · have t1 : (o.u == u) = false := by simpa using hu
        have HU := Lib.hid hu
        clear hu
        go_wp2
        go_round
        case rel =>
          refine ⟨j + 1, by omega, by go_num, ?_⟩
          rw [HTK.out]
          intro y hy
          rcases List.mem_append.1 hy with e | e
          · exact HNO.out y e
          · simp at e; subst e; exact fun hh => HU.out hh.1
        case measure => simp [intOf] <;> omega
    · obtain rfl : j = L.length := by omega
      have hn := HNO.out
      rw [List.take_of_length_le (Nat.le_refl _)] at hn
      have hf : hasO L u x = false := by
        cases hh : hasO L u x with
        | false => rfl
        | true =>
          obtain ⟨o, ho, e1, e2⟩ := hasO_iff.1 hh
          exact absurd ⟨e1, e2⟩ (hn o ho)
      have eb : b = false := by rw [hb.out, hf]
      have ea : a = 0 := by rw [ha.out]; exact atP_not hf
      subst ea; subst eb
      clear ha hb hn HNO hf HOK
      go_wp2
      go_ret2
      exact ⟨rfl, rfl⟩
theorem len_snoc (l : List Ou) (o : Ou) (u : Int) : lenO (l ++ [o]) u = if o.u = u then lenO l u + 1 else lenO l u := by
  obtain ⟨a, s, i⟩ := o
  unfold lenO
  rw [outs_add]
  by_cases e : a = u
  · rw [if_pos e.symm, if_pos e]; simp
  · rw [if_neg (fun h => e h.symm), if_neg e]
theorem rlen_any (u : Int) (k : Nat) (h : RTab w q n L) (hk : Hid (k = lenO L u)) :
    Calls Try.prog 34 #[.pointer (some ⟨q, 0, none⟩), .int .i64 u] w fun e w' => e = .returned (.int .i64 (k : Nat)) ∧ w = w' := by
  obtain ⟨h0, v, h1, h2⟩ := h
  obtain ⟨av, cv, rfl⟩ := h2.len
  have k1 : w.cell? ⟨q, 0 + 1, none⟩ = some (.slice av L.length cv) := cell_of h1
  have H2 := Lib.hid h2
  clear h1 h2
  go_enter Try.func34, Try.ntmps34
  go_wp2_with fail
  go_loop [5, 6] (fun v i => ∃ j c : Nat, j ≤ L.length ∧ i = .int .i64 (j : Nat) ∧ v = .int .i64 (c : Nat) ∧ Hid (c = lenO (L.take j) u) ∧ c ≤ j) (fun _ i => L.length - (intOf i).toNat)
  case atStart => exact ⟨0, 0, Nat.zero_le _, rfl, rfl, Lib.hid rfl, Nat.le_refl _⟩
  case round =>
    obtain ⟨j, c0, hj, rfl, rfl, HC0, hc0⟩ := hrel
    by_cases hlt : j < L.length
    · obtain ⟨g, c, hv, _, _, hx⟩ := H2.out.cells ouV_len (by omega)
      injection hv with hv1 _ _
      subst hv1
      obtain ⟨o, hoj⟩ : ∃ o, o = L[j] := ⟨_, rfl⟩
      have d0 := hx j hlt 0 (.int .i64 o.u) (by rw [← hoj]; rfl)
      have htk : L.take (j + 1) = L.take j ++ [o] := by rw [List.take_succ_eq_append_getElem hlt, ← hoj]
      have hsn := len_snoc (L.take j) o u
      rw [← htk, ← HC0.out] at hsn
      have HSN := Lib.hid hsn
      rw [Nat.add_zero] at d0
      clear hx hoj htk H2 hsn
      by_cases hu : o.u = u
      · have t1 : (o.u == u) = true := by simpa using hu
        have hnew : c0 + 1 = lenO (L.take (j + 1)) u := by rw [HSN.out, if_pos hu]
        have HNEW := Lib.hid hnew
        clear hu hnew
        go_wp2
        go_round
        case rel => exact ⟨j + 1, c0 + 1, by omega, by go_num, by go_num, HNEW, by omega⟩
        case measure => simp [intOf] <;> omega
      · have t1 : (o.u == u) = false := by simpa using hu
        have hnew : c0 = lenO (L.take (j + 1)) u := by rw [HSN.out, if_neg hu]
        have HNEW := Lib.hid hnew
        clear hu hnew
        go_wp2
        go_round
        case rel => exact ⟨j + 1, c0, by omega, by go_num, rfl, HNEW, by omega⟩
        case measure => simp [intOf] <;> omega
    · obtain rfl : j = L.length := by omega
      have e1 := HC0.out
      rw [List.take_of_length_le (Nat.le_refl _), ← hk.out] at e1
      subst e1
      clear hk HC0
      go_wp2
      go_ret
      exact ⟨rfl, rfl⟩

/-- What free keeps. -/
def keepB (s u : Int) (o : Ou) : Bool := !(decide (o.slot = s) && (decide (u < 0) || decide (o.u = u)))
def keepL (L : List Ou) (s u : Int) : List Ou := L.filter (keepB s u)
theorem keepL_le (L : List Ou) (s u : Int) : (keepL L s u).length ≤ L.length := List.length_filter_le _ _
theorem keepL_A (L : List Ou) (s u : Int) (h : u < 0) : keepL L s u = freeA L s := by
  unfold keepL freeA
  congr 1
  funext o
  simp [keepB, h]
theorem keepL_O (L : List Ou) (s u : Int) (h : 0 ≤ u) : keepL L s u = freeO L s u := by
  unfold keepL freeO
  congr 1
  funext o
  have : ¬ u < 0 := by omega
  simp [keepB, this]
theorem keepL_snoc (l : List Ou) (o : Ou) (s u : Int) : keepL (l ++ [o]) s u = if keepB s u o then keepL l s u ++ [o] else keepL l s u := by
  unfold keepL
  rw [List.filter_append, List.filter_cons]
  cases keepB s u o <;> simp
def RFreeR (s u : Int) (L : List Ou) (w : World) (v i : Value) (wr : World) : Prop :=
  ∃ j : Nat, j ≤ L.length ∧ i = .int .i64 (j : Nat) ∧ OwnO w.heap.size wr v (keepL (L.take j) s u) ∧ Chg [] w wr
set_option maxHeartbeats 1000000 in
theorem rfree_any (s u : Int) (c : Nat) (h : RTab w q n L) (hc : Hid (c = L.length - (keepL L s u).length)) :
    Calls Try.prog 37 #[.pointer (some ⟨q, 0, none⟩), .int .i64 s, .int .i64 u] w fun e w' => e = .returned (.int .i64 (c : Nat)) ∧ RTab w' q n (keepL L s u) ∧ Chg [q] w w' := by
  have hq := h.lt
  obtain ⟨h0, v, h1, h2⟩ := h
  obtain ⟨av, cv, rfl⟩ := h2.len
  have k1 : w.cell? ⟨q, 0 + 1, none⟩ = some (.slice av L.length cv) := cell_of h1
  have H1 := Lib.hid h1
  have H2 := Lib.hid h2
  obtain ⟨i0, hi0, hz0, hz1, hz2⟩ := info_parts Try.elemOut
  clear h1 h2
  go_enter Try.func37, Try.ntmps37
  go_wp2_with fail
  go_loopw [7, 8] (RFreeR s u L w) (fun _ i _ => L.length - (intOf i).toNat)
  case atStart => exact ⟨0, Nat.zero_le _, rfl, R.OwnR.nil _ _ _ _ _, Chg.refl _ _⟩
  case round =>
    obtain ⟨j, hj, rfl, hown, hck⟩ := hrel
    have k2 := hck.cell k1 (by simp)
    obtain ⟨av1, cv1, hv⟩ := hown.len
    rw [hv] at hown ⊢
    clear hv
    by_cases hlt : j < L.length
    · obtain ⟨g, c, hv, _, _, hx⟩ := H2.out.cells ouV_len (by omega)
      injection hv with hv1 _ _
      subst hv1
      obtain ⟨o, hoj⟩ : ∃ o, o = L[j] := ⟨_, rfl⟩
      have d0 := hck.cell (hx j hlt 0 (.int .i64 o.u) (by rw [← hoj]; rfl)) (by simp)
      have d1 := hck.cell (hx j hlt 1 (.int .i64 o.slot) (by rw [← hoj]; rfl)) (by simp)
      have d2 := hck.cell (hx j hlt 2 (.int .u16 (o.id : Nat)) (by rw [← hoj]; rfl)) (by simp)
      have htk : L.take (j + 1) = L.take j ++ [o] := by rw [List.take_succ_eq_append_getElem hlt, ← hoj]
      have hsn := keepL_snoc (L.take j) o s u
      rw [← htk] at hsn
      have HSN := Lib.hid hsn
      rw [Nat.add_zero] at d0
      have hdl : (keepL (L.take j) s u).length ≤ 1000 := Nat.le_trans (keepL_le _ _ _) (by simp; omega)
      have HOWN := Lib.hid hown
      clear hx hoj htk hown hsn
      have hcase : (keepB s u o = false ∧ o.slot = s ∧ (u < 0 ∨ (0 ≤ u ∧ o.u = u))) ∨ (keepB s u o = true ∧ (o.slot ≠ s ∨ (o.slot = s ∧ 0 ≤ u ∧ o.u ≠ u))) := by
        unfold keepB
        by_cases e1 : o.slot = s
        · by_cases e2 : u < 0
          · left; exact ⟨by simp [e1, e2], e1, .inl e2⟩
          · by_cases e3 : o.u = u
            · left; exact ⟨by simp [e1, e3], e1, .inr ⟨by omega, e3⟩⟩
            · right; exact ⟨by simp [e2, e3], .inr ⟨e1, by omega, e3⟩⟩
        · right; exact ⟨by simp [e1], .inl e1⟩
      rcases hcase with ⟨hkb, hsl, hu⟩ | ⟨hkb, hu⟩
      · have t1 : (o.slot != s) = false := by simpa using hsl
        have hnew : keepL (L.take (j + 1)) s u = keepL (L.take j) s u := by rw [HSN.out, hkb]; rfl
        have HNEW := Lib.hid hnew
        clear hnew hkb hsl
        rcases hu with hu | ⟨hu, hu2⟩
        case' inl =>
          have t2 : decide (0 ≤ u) = false := by simp; omega
        case' inr =>
          have t2 : decide (0 ≤ u) = true := by simpa using hu
          have t3 : (o.u != u) = false := by simpa using hu2
          clear hu2
        all_goals
          go_wp2
          go_roundw
          case rel => exact ⟨j + 1, by omega, by go_num, by rw [HNEW.out]; exact HOWN.out, hck⟩
          case measure => simp [intOf] <;> omega
      · have hnew : keepL (L.take (j + 1)) s u = keepL (L.take j) s u ++ [o] := by rw [HSN.out, hkb]; rfl
        have HNEW := Lib.hid hnew
        clear hnew hkb
        rcases hu with hu | ⟨hu0, hu, hu2⟩
        case' inl =>
          have t1 : (o.slot != s) = true := by simpa using hu
        case' inr =>
          have t1 : (o.slot != s) = false := by simpa using hu0
          have t2 : decide (0 ≤ u) = true := by simpa using hu
          have t3 : (o.u != u) = true := by simpa using hu2
          clear hu0 hu hu2
        all_goals
          go_wp2_with (at_builtin; go_must (refine wpList_append_own _ rfl _ _ 77 rfl w.heap.size 81 i0 (.agg #[.int .i64 0, .int .i64 0, .int .u16 0]) 3 24 Try.underlying77 hi0 hz0 hz1 hz2 rfl (by decide) _ (keepL (L.take j) s u).length ((keepL (L.take j) s u).flatMap ouV) rfl (World.ownsRow.alloc HOWN.out _) ⟨wr.heap.size, 0, none⟩ 1 1 (ouV o) rfl rfl (cell_three_new _ _ _ _ _) (by simp [ouV, Value.oneCell']) (by unfold maxLen; omega) (by omega) (by have := hck.size; simp; omega) ?_); go_must (intro v1 w4 hown1 hg1 _))
          go_roundw
          case rel =>
            refine ⟨j + 1, by omega, by go_num, ?_, (hck.alloc _).grown hg1 (fun k hk => .inr (HOWN.out.blk k hk).1)⟩
            rw [HNEW.out]
            exact R.OwnR.snoc hown1
          case measure => simp [intOf] <;> omega
    · obtain rfl : j = L.length := by omega
      rw [List.take_of_length_le (Nat.le_refl _)] at hown ⊢
      obtain ⟨out, hout⟩ : ∃ out, out = keepL L s u := ⟨_, rfl⟩
      have hol : out.length ≤ L.length := by rw [hout]; exact keepL_le _ _ _
      rw [← hout] at hown ⊢
      have HOUT := Lib.hid hout
      have hc2 : (c : Int) = (L.length : Int) - (out.length : Int) := by have := hc.out; rw [← hout] at this; omega
      have HC2 := Lib.hid hc2
      have h2 := hck.keep H1.out (by simp)
      have f2 : wr.frozen? ⟨q, 0 + 1, none⟩ = false := free_of h2
      have H2' := Lib.hid h2
      have HOWN := Lib.hid hown
      clear hout h2 hown hc hc2
      go_wp2
      go_ret
      have g1 : (wr.setCell ⟨q, 1, none⟩ (.slice av1 out.length cv1)).heap[q]? = some (.cells #[.int .i64 (n : Nat), .slice av1 out.length cv1] 79 (0, 0)) := by rw [heap_set H2'.out]; rfl
      have hne : ∀ g, (Value.slice av1 out.length cv1).ownBlock = some g → g ∉ [q] := fun g hg => by
        have := (HOWN.out.blk g hg).1
        simp; omega
      have g2 : OwnO w.heap.size (wr.setCell ⟨q, 1, none⟩ (.slice av1 out.length cv1)) (.slice av1 out.length cv1) out := HOWN.out.chg (Chg.set1 _ _ _ _) hne
      rw [← HOUT.out]
      exact ⟨D.ret_int HC2.out.symm, ⟨by omega, _, g1, g2.low (Nat.zero_le _)⟩, (hck.mono (by simp)).trans (Chg.set1 _ _ _ _)⟩
theorem rFree_any (s : Int) (c : Nat) (h : RTab w q n L) (hc : Hid (c = L.length - (freeA L s).length)) :
    Calls Try.prog 24 #[.pointer (some ⟨q, 0, none⟩), .int .i64 s] w fun e w' => e = .returned (.int .i64 (c : Nat)) ∧ RTab w' q n (freeA L s) ∧ Chg [q] w w' := by
  rw [← keepL_A L s (-1) (by omega)]
  have HC : Hid (c = L.length - (keepL L s (-1)).length) := Lib.hid (by rw [keepL_A L s (-1) (by omega)]; exact hc.out)
  clear hc
  go_enter Try.func24, Try.ntmps24
  go_wp2_with fail
  refine (rfree_any q n L w s (-1) c h HC).mono ?_
  rintro e w1 ⟨rfl, h1, hc1⟩
  go_wp2
  go_ret
  exact ⟨rfl, h1, hc1⟩
theorem rFreeAt_any (s u : Int) (c : Nat) (h : RTab w q n L) (hok : OkO n L) (hc : Hid (c = L.length - (freeO L s u).length)) :
    Calls Try.prog 25 #[.pointer (some ⟨q, 0, none⟩), .int .i64 s, .int .i64 u] w fun e w' => e = .returned (.int .i64 (c : Nat)) ∧ RTab w' q n (freeO L s u) ∧ Chg [q] w w' := by
  by_cases hu : u < 0
  · have t1 : decide (u < 0) = true := by simpa using hu
    have e1 := freeO_out hok (s := s) (.inl hu)
    have e2 : c = 0 := by rw [hc.out, e1]; omega
    subst e2
    rw [e1]
    clear hc e1 hu
    go_enter Try.func25, Try.ntmps25
    go_wp2
    go_ret
    exact ⟨rfl, h, Chg.refl _ _⟩
  · have t1 : decide (u < 0) = false := by simpa using hu
    rw [← keepL_O L s u (by omega)]
    have HC : Hid (c = L.length - (keepL L s u).length) := Lib.hid (by rw [keepL_O L s u (by omega)]; exact hc.out)
    clear hc hu
    go_enter Try.func25, Try.ntmps25
    go_wp2_with fail
    refine (rfree_any q n L w s u c h HC).mono ?_
    rintro e w1 ⟨rfl, h1, hc1⟩
    go_wp2
    go_ret
    exact ⟨rfl, h1, hc1⟩
end

end Go.Proofs.Yteehenajchdgaaa
