/- The walks of the document's timers: At, Drop, Put, first, Next, Copy. -/
import Derived.Test.YtlkhaookdmgbnaaTimT
import Derived.Test.YtlkhaookdmgbnaaRecRow
import Derived.Deep.RegionLaw
namespace Go.Proofs.Ytlkhaookdmgbnaa
open Go.RowKit

theorem Try.elemThing : (Try.prog.info? 72).map (fun i => (i.zero, i.size, i.bytes)) = some (some (.agg #[.int .i64 0, .int .i64 0]), 2, 16) := by kernel_rfl
/-- The cells of a thing. -/
def thV (x : It) : List Value := [.int .i64 x.id, .int .i64 x.due]
theorem thV_len (x : It) : (thV x).length = 2 := rfl
theorem thV_one (l : List It) : ∀ u ∈ l.flatMap thV, u.oneCell' = true := by
  intro u hu
  obtain ⟨x, _, hx⟩ := List.mem_flatMap.1 hu
  simp [thV] at hx
  rcases hx with rfl | rfl <;> rfl
abbrev OwnT (base : Nat) (w : World) (v : Value) (l : List It) : Prop := R.OwnR 72 2 thV base w v l
/-- The block q is the document's timers; the row of its things lies in G. -/
def RefT (w : World) (q : Nat) (G : List Nat) (l : List It) : Prop :=
  l.length ≤ 1000 ∧ ∃ v, w.heap[q]? = some (.cells #[v] 49 (0, 0)) ∧ OwnT 0 w v l ∧ ∀ g, v.ownBlock = some g → g ∈ G
theorem RefT.lt {w : World} {q : Nat} {G : List Nat} {l : List It} (h : RefT w q G l) : q < w.heap.size := by obtain ⟨_, v, h1, _⟩ := h; exact lt_of_block h1
theorem RefT.chg {S : List Nat} {w w' : World} {q : Nat} {G : List Nat} {l : List It} (h : RefT w q G l) (hc : Chg S w w') (hq : ∀ y ∈ q :: G, y ∉ S) : RefT w' q G l := by
  obtain ⟨h0, v, h1, h2, h3⟩ := h
  exact ⟨h0, v, hc.keep h1 (hq q (by simp)), h2.chg hc (fun g hg => hq g (List.mem_cons_of_mem _ (h3 g hg))), h3⟩
theorem RefT.same {w w' : World} {q : Nat} {G : List Nat} {l : List It} (h : RefT w q G l) (hc : Chg [] w w') : RefT w' q G l := h.chg hc (by simp)

section
variable (q : Nat) (G : List Nat) (l : List It) (w : World)
theorem rat_any (id a : Int) (b : Bool) (h : RefT w q G l) (ha : Hid (a = ((l.find? fun x => decide (x.id = id)).map It.due).getD 0)) (hb : Hid (b = l.any fun x => decide (x.id = id))) :
    Calls Try.prog 27 #[.pointer (some ⟨q, 0, none⟩), .int .i64 id] w fun e w' => e = .returned (.tuple #[.int .i64 a, .bool b]) ∧ w = w' := by
  obtain ⟨h0, v, h1, h2, h3⟩ := h
  obtain ⟨av, cv, rfl⟩ := h2.len
  have k1 : w.cell? ⟨q, 0, none⟩ = some (.slice av l.length cv) := cell_of h1
  have H2 := Lib.hid h2
  clear h1 h2 h3
  go_enter Try.func27, Try.ntmps27
  go_wp2_with fail
  go_loop [6] (fun i => ∃ j : Nat, j ≤ l.length ∧ i = .int .i64 (j : Nat) ∧ (l.take j).any (fun x => decide (x.id = id)) = false) (fun i => l.length - (intOf i).toNat)
  case atStart => exact ⟨0, Nat.zero_le _, rfl, by simp⟩
  case round =>
    obtain ⟨j, hj, rfl, hno⟩ := hrel
    have HNO := Lib.hid hno
    clear hno
    by_cases hlt : j < l.length
    · obtain ⟨g, c, hv, _, _, hx⟩ := H2.out.cells thV_len (by omega)
      injection hv with hv1 _ _
      subst hv1
      obtain ⟨x, hxj⟩ : ∃ x, x = l[j] := ⟨_, rfl⟩
      have d0 := hx j hlt 0 (.int .i64 x.id) (by rw [← hxj]; rfl)
      have d1 := hx j hlt 1 (.int .i64 x.due) (by rw [← hxj]; rfl)
      have htk : l.take (j + 1) = l.take j ++ [x] := by rw [List.take_succ_eq_append_getElem hlt, ← hxj]
      have hsp : l = l.take j ++ x :: l.drop (j + 1) := by rw [hxj]; exact (List.take_append_drop j l).symm.trans (by rw [List.drop_eq_getElem_cons hlt])
      have HTK := Lib.hid htk
      have HSP := Lib.hid hsp
      rw [Nat.add_zero] at d0
      clear hx hxj htk hsp H2
      by_cases hxi : x.id = id
      · have t1 : (x.id == id) = true := by simpa using hxi
        have ea : a = x.due := by
          rw [ha.out, HSP.out, List.find?_append]
          have : (l.take j).find? (fun x => decide (x.id = id)) = none := by
            rw [List.find?_eq_none]
            intro y hy
            have := HNO.out
            rw [List.any_eq_false] at this
            exact this y hy
          rw [this]
          simp [hxi]
        have eb : b = true := by
          rw [hb.out, HSP.out, List.any_append]
          simp [hxi]
        subst ea; subst eb
        clear hxi ha hb HTK HSP HNO
        go_wp2
        go_ret2
        exact ⟨rfl, rfl⟩
      · have t1 : (x.id == id) = false := by simpa using hxi
        have HXI := Lib.hid hxi
        clear hxi
        go_wp2
        go_round
        case rel => exact ⟨j + 1, by omega, by go_num, by rw [HTK.out, List.any_append, HNO.out]; simp [HXI.out]⟩
        case measure => simp [intOf] <;> omega
    · obtain rfl : j = l.length := by omega
      have hn := HNO.out
      rw [List.take_of_length_le (Nat.le_refl _)] at hn
      have eb : b = false := by rw [hb.out, hn]
      have ea : a = 0 := by
        rw [ha.out]
        have : l.find? (fun x => decide (x.id = id)) = none := by
          rw [List.find?_eq_none]
          intro y hy
          rw [List.any_eq_false] at hn
          exact hn y hy
        rw [this]; rfl
      subst ea; subst eb
      clear ha hb hn HNO
      go_wp2
      go_ret2
      exact ⟨rfl, rfl⟩

def RDropT (id : Int) (l : List It) (w : World) (v i : Value) (wr : World) : Prop :=
  ∃ j : Nat, j ≤ l.length ∧ i = .int .i64 (j : Nat) ∧ OwnT w.heap.size wr v (delL (l.take j) id) ∧ Chg [] w wr
theorem delL_snoc_eq (l : List It) (x : It) (id : Int) (h : x.id = id) : delL (l ++ [x]) id = delL l id := by simp [delL, List.filter_append, h]
theorem delL_snoc_ne (l : List It) (x : It) (id : Int) (h : x.id ≠ id) : delL (l ++ [x]) id = delL l id ++ [x] := by simp [delL, List.filter_append, h]
theorem delL_le (l : List It) (id : Int) : (delL l id).length ≤ l.length := (delL_sub l id).length_le
theorem three {g : Nat} {v : Value} {base : Nat} {w : World} {l : List It} (h : OwnT base w v l) (hg : g < base) : v.ownBlock ≠ some g := by
  intro e
  have := (h.blk g e).1
  omega

set_option maxHeartbeats 1000000 in
theorem rdrop_any (id : Int) (r : Bool) (h : RefT w q G l) (hr : Hid (r = decide ((delL l id).length < l.length))) :
    Calls Try.prog 21 #[.pointer (some ⟨q, 0, none⟩), .int .i64 id] w fun e w' => e = .returned (.bool r) ∧ (∃ G', RefT w' q G' (delL l id) ∧ ∀ g ∈ G', w.heap.size ≤ g) ∧ Chg [q] w w' := by
  have hq := h.lt
  obtain ⟨h0, v, h1, h2, h3⟩ := h
  obtain ⟨av, cv, rfl⟩ := h2.len
  have k1 : w.cell? ⟨q, 0, none⟩ = some (.slice av l.length cv) := cell_of h1
  have H1 := Lib.hid h1
  have H2 := Lib.hid h2
  obtain ⟨i0, hi0, hz0, hz1, hz2⟩ := info_parts Try.elemThing
  clear h1 h2 h3
  go_enter Try.func21, Try.ntmps21
  go_wp2_with fail
  go_loopw [5, 6] (RDropT id l w) (fun _ i _ => l.length - (intOf i).toNat)
  case atStart => exact ⟨0, Nat.zero_le _, rfl, R.OwnR.nil _ _ _ _ _, Chg.refl _ _⟩
  case round =>
    obtain ⟨j, hj, rfl, hown, hck⟩ := hrel
    have k2 := hck.cell k1 (by simp)
    obtain ⟨av1, cv1, hv⟩ := hown.len
    rw [hv] at hown ⊢
    clear hv
    by_cases hlt : j < l.length
    · obtain ⟨g, c, hv, _, _, hx⟩ := H2.out.cells thV_len (by omega)
      injection hv with hv1 _ _
      subst hv1
      obtain ⟨x, hxj⟩ : ∃ x, x = l[j] := ⟨_, rfl⟩
      have d0 := hck.cell (hx j hlt 0 (.int .i64 x.id) (by rw [← hxj]; rfl)) (by simp)
      have d1 := hck.cell (hx j hlt 1 (.int .i64 x.due) (by rw [← hxj]; rfl)) (by simp)
      have htk : l.take (j + 1) = l.take j ++ [x] := by rw [List.take_succ_eq_append_getElem hlt, ← hxj]
      have HTK := Lib.hid htk
      rw [Nat.add_zero] at d0
      have hdl : (delL (l.take j) id).length ≤ 1000 := Nat.le_trans (delL_le _ _) (by simp; omega)
      have HOWN := Lib.hid hown
      clear hx hxj htk hown
      by_cases hxi : x.id = id
      · have t1 : (x.id != id) = false := by simpa using hxi
        have HXI := Lib.hid hxi
        clear hxi
        go_wp2
        go_roundw
        case rel => exact ⟨j + 1, by omega, by go_num, by rw [HTK.out, delL_snoc_eq _ _ _ HXI.out]; exact HOWN.out, hck⟩
        case measure => simp [intOf] <;> omega
      · have t1 : (x.id != id) = true := by simpa using hxi
        have HXI := Lib.hid hxi
        clear hxi
        go_wp2_with (at_builtin; go_must (refine wpList_append_own _ rfl _ _ 47 rfl w.heap.size 72 i0 (.agg #[.int .i64 0, .int .i64 0]) 2 16 Try.underlying47 hi0 hz0 hz1 hz2 rfl (by decide) _ (delL (l.take j) id).length ((delL (l.take j) id).flatMap thV) rfl (World.ownsRow.alloc HOWN.out _) ⟨wr.heap.size, 0, none⟩ 1 1 (thV x) rfl rfl (cell_two_new _ _ _ _) (by simp [thV, Value.oneCell']) (by unfold maxLen; omega) (by omega) (by have := hck.size; simp; omega) ?_); go_must (intro v1 w4 hown1 hg1 _))
        go_roundw
        case rel =>
          refine ⟨j + 1, by omega, by go_num, ?_, (hck.alloc _).grown hg1 (fun k hk => .inr (HOWN.out.blk k hk).1)⟩
          rw [HTK.out, delL_snoc_ne _ _ _ HXI.out]
          exact R.OwnR.snoc hown1
        case measure => simp [intOf] <;> omega
    · obtain rfl : j = l.length := by omega
      rw [List.take_of_length_le (Nat.le_refl _)] at hown ⊢
      obtain ⟨out, hout⟩ : ∃ out, out = delL l id := ⟨_, rfl⟩
      have hol : out.length ≤ l.length := by rw [hout]; exact delL_le _ _
      rw [← hout] at hown ⊢
      have HOUT := Lib.hid hout
      have HR2 : Hid (r = decide (out.length < l.length)) := by show _ = _; rw [hr.out, hout]
      have h2 := hck.keep H1.out (by simp)
      have f2 : wr.frozen? ⟨q, 0, none⟩ = false := free_of h2
      have H2' := Lib.hid h2
      have HOWN := Lib.hid hown
      clear hout h2 hown hr
      have fin : ∀ w', w' = wr.setCell ⟨q, 0, none⟩ (.slice av1 out.length cv1) → (∃ G', RefT w' q G' out ∧ ∀ g ∈ G', w.heap.size ≤ g) ∧ Chg [q] w w' := by
        rintro w' rfl
        have g1 : (wr.setCell ⟨q, 0, none⟩ (.slice av1 out.length cv1)).heap[q]? = some (.cells #[.slice av1 out.length cv1] 49 (0, 0)) := by rw [heap_set H2'.out]; rfl
        have hne : ∀ g, (Value.slice av1 out.length cv1).ownBlock = some g → g ∉ [q] := fun g hg => by
          have := (HOWN.out.blk g hg).1
          simp; omega
        have g2 : OwnT w.heap.size (wr.setCell ⟨q, 0, none⟩ (.slice av1 out.length cv1)) (.slice av1 out.length cv1) out := HOWN.out.chg (Chg.set1 _ _ _ _) hne
        refine ⟨⟨(match (Value.slice av1 out.length cv1).ownBlock with | some g => [g] | none => []), ⟨by omega, _, g1, g2.low (Nat.zero_le _), ?_⟩, ?_⟩, (hck.mono (by simp)).trans (Chg.set1 _ _ _ _)⟩
        · intro g hg; rw [hg]; simp
        · intro g hg
          split at hg
          · rename_i g' hg'
            simp at hg
            subst hg
            exact (HOWN.out.blk _ hg').1
          · simp at hg
      have FIN := Lib.hid fin
      clear fin
      by_cases hlo : out.length < l.length
      · have hrt : r = true := by rw [HR2.out]; simpa using hlo
        subst hrt
        clear HR2
        go_wp2
        go_ret
        rw [← HOUT.out]
        exact ⟨rfl, FIN.out _ rfl⟩
      · have hrt : r = false := by rw [HR2.out]; simpa using hlo
        subst hrt
        have t1 : decide (out.length < l.length) = false := by simpa using hlo
        clear HR2
        go_wp2
        go_ret
        rw [← HOUT.out]
        exact ⟨rfl, FIN.out _ rfl⟩
end

end Go.Proofs.Ytlkhaookdmgbnaa
