/- The walks of the document's timers: Next, Due. -/
import Derived.Test.YtlkhaookdmgbnaaRefU
import Derived.Test.YtlkhaookdmgbnaaTimO
namespace Go.Proofs.Ytlkhaookdmgbnaa
open Go.RowKit

theorem first_min {l : List It} {k : Nat} (hr : l.Pairwise fun x y => x.put < y.put) (h : FirstAt l l.length k) : ∃ x, l[k]? = some x ∧ isMin x l := by
  obtain ⟨hk, x, hx, h1, h2⟩ := h
  have hxm : l[k] = x := by rw [List.getElem?_eq_getElem hk] at hx; injection hx
  refine ⟨x, hx, hxm ▸ List.getElem_mem hk, ?_⟩
  intro y hy
  obtain ⟨i, hi, rfl⟩ := List.getElem_of_mem hy
  rw [leI_iff]
  have e1 := h1 i l[i] hi (List.getElem?_eq_getElem hi)
  rcases Nat.lt_trichotomy i k with hh | hh | hh
  · have := h2 i l[i] hh (List.getElem?_eq_getElem hi); omega
  · subst hh; rw [hxm]; omega
  · have := List.pairwise_iff_getElem.1 hr k i hk hi hh
    rw [hxm] at this
    omega
section
variable (q : Nat) (G : List Nat) (l : List It) (w : World)
theorem rnext_none (h : RefT w q G []) :
    Calls Try.prog 26 #[.pointer (some ⟨q, 0, none⟩)] w fun e w' => e = .returned (.tuple #[.int .i64 0, .int .i64 0, .bool false]) ∧ Chg [] w w' := by
  go_enter Try.func26, Try.ntmps26
  go_wp2_with fail
  refine (first_none q G w h).mono ?_
  rintro e w1 ⟨rfl, rfl⟩
  go_wp2
  go_ret3
  exact ⟨rfl, Chg.refl _ _⟩
theorem rnext_some (p : Nat) (x : It) (h : RefT w q G l) (hok : OkL l p) (hx : Hid ((sortL l).head? = some x)) :
    Calls Try.prog 26 #[.pointer (some ⟨q, 0, none⟩)] w fun e w' => e = .returned (.tuple #[.int .i64 x.id, .int .i64 x.due, .bool true]) ∧ Chg [] w w' := by
  have hl : 0 < l.length := by
    cases l with
    | nil => have := hx.out; simp [sortL] at this
    | cons y l => simp
  have h' := h
  obtain ⟨h0, v, h1, h2, h3⟩ := h
  obtain ⟨g, c, rfl, _, _, hc⟩ := h2.cells thV_len hl
  have k1 : w.cell? ⟨q, 0, none⟩ = some (.slice (some ⟨g, 0, none⟩) l.length c) := cell_of h1
  have HC := Lib.hid hc
  clear h1 h2 h3 hc
  go_enter Try.func26, Try.ntmps26
  go_wp2_with fail
  refine (first_some q G l w h' hl).mono ?_
  rintro e w1 ⟨k, rfl, hF, hc1⟩
  have hkl := hF.1
  obtain ⟨y, hy, hmin⟩ := first_min hok.rise hF
  have e := min_head hok.rise hmin hok.ids
  have hxo := hx.out
  rw [e] at hxo
  injection hxo with hxo
  subst hxo
  have hyk : l[k] = y := by rw [List.getElem?_eq_getElem hkl] at hy; injection hy
  have k2 := hc1.cell k1 (by simp)
  have d0 := hc1.cell (HC.out k hkl 0 (.int .i64 y.id) (by rw [hyk]; rfl)) (by simp)
  have d1 := hc1.cell (HC.out k hkl 1 (.int .i64 y.due) (by rw [hyk]; rfl)) (by simp)
  rw [Nat.add_zero] at d0
  have tk : decide ((k : Int) < 0) = false := by simp
  clear hF hy hmin e hyk h' hok HC hx k1
  go_wp2_with fail
  go_quiet (fail)
  go_wp2
  go_ret3
  exact ⟨rfl, hc1.drewN _⟩

def RDueR (q : Nat) (G : List Nat) (l : List It) (p : Nat) (now : Int) (w : World) (v : Value) (wr : World) : Prop :=
  ∃ (out : List Int) (M : List It) (G1 : List Nat), OwnZ w.heap.size wr v out ∧ RefT wr q G1 M ∧ OkL M p ∧ Chg [q] w wr ∧ (∀ g ∈ G1, g ∈ G ∨ w.heap.size ≤ g) ∧ (∀ g ∈ G1, v.ownBlock ≠ some g) ∧ out ++ dueL M now = dueL l now ∧ restL M now = restL l now ∧ out.length + M.length = l.length
set_option maxHeartbeats 1000000 in
theorem rdue_any (p : Nat) (now : Int) (h : RefT w q G l) (hok : OkL l p) :
    Calls Try.prog 22 #[.pointer (some ⟨q, 0, none⟩), .int .i64 now] w fun e w' => ∃ v, e = .returned v ∧ OwnZ w.heap.size w' v (dueL l now) ∧ (∃ G', RefT w' q G' (restL l now) ∧ ∀ g ∈ G', g ∈ G ∨ w.heap.size ≤ g) ∧ Chg [q] w w' := by
  have hq := h.lt
  have hl0 := h.1
  obtain ⟨i0, hi0, hz0, hz1, hz2⟩ := info_parts Try.elemInt
  have HH := Lib.hid h
  clear h
  go_enter Try.func22, Try.ntmps22
  go_wp2_with fail
  go_loopw [5] (RDueR q G l p now w) (fun v _ => l.length - lenOf v)
  case atStart => exact ⟨[], l, G, ⟨rfl, .inl ⟨rfl, rfl⟩⟩, HH.out, hok, Chg.refl _ _, fun g hg => .inl hg, fun g _ => by simp [Value.ownBlock], rfl, rfl, by simp⟩
  case round =>
    clear HH hok
    obtain ⟨out, M, G1, hown, hT, hok, hC, hG1, hG2, hD⟩ := hrel
    obtain ⟨av, cv, hv⟩ := owns_len hown
    subst hv
    have hol : out.length ≤ 1000 := by have := hD.2.2; omega
    have HOWN := Lib.hid hown
    have HG1 := Lib.hid hG1
    have HG2 := Lib.hid hG2
    have HD := Lib.hid hD
    clear hown hG1 hG2 hD
    by_cases hM : M.length = 0
    · have hM' : M = [] := List.length_eq_zero_iff.1 hM
      subst hM'
      clear hM
      go_wp2_with fail
      refine (rnext_none q G1 _ hT).mono ?_
      rintro e w1 ⟨rfl, hc1⟩
      have HT := Lib.hid (hT.same hc1)
      have HC := Lib.hid (hC.trans (hc1.mono (by simp)))
      clear hT hC
      go_wp2
      go_ret
      obtain ⟨hd, hr, hl⟩ := HD.out
      refine ⟨_, rfl, ?_, ⟨G1, by rw [← hr]; exact HT.out, HG1.out⟩, HC.out⟩
      rw [← hd]
      have : dueL [] now = [] := rfl
      rw [this, List.append_nil]
      exact OwnZ.chg HOWN.out hc1 (by simp)
    · obtain ⟨x, hxx⟩ : ∃ x, (sortL M).head? = some x := by
        cases hs : sortL M with
        | nil => have := (sortL_perm M).length_eq; rw [hs] at this; simp at this; omega
        | cons x r => exact ⟨x, rfl⟩
      have hmin : isMin x M := by
        have hs := sortL_sorted M
        have hp := sortL_perm M
        cases h : sortL M with
        | nil => rw [h] at hxx; cases hxx
        | cons y r =>
          rw [h] at hxx hs hp
          injection hxx with e
          subst e
          rw [List.pairwise_cons] at hs
          refine ⟨hp.mem_iff.1 (by simp), fun z hz => ?_⟩
          rcases List.mem_cons.1 (hp.mem_iff.2 hz) with e | e
          · rw [e]; exact leI_refl _
          · exact hs.1 z e
      have HXX := Lib.hid hxx
      clear hxx hM
      by_cases hdue : x.due ≤ now
      · have t1 : decide (now < x.due) = false := by simp; omega
        have HS := Lib.hid (due_step hok.rise hmin hok.ids hdue)
        have HML := Lib.hid (delL_len hmin.1 hok.ids)
        have hok2 := hok.del x.id
        go_wp2_with fail
        refine (rnext_some q G1 M _ p x hT hok HXX).mono ?_
        rintro e w1 ⟨rfl, hc1⟩
        have hT1 := hT.same hc1
        have hC1 := hC.trans (hc1.mono (by simp))
        have HO1 : Hid (w1.ownsRow w.heap.size 3 1 (.slice av out.length cv) out.length (out.map fun x => Value.int .i64 x)) := Lib.hid (OwnZ.chg HOWN.out hc1 (by simp))
        have hsz := hC1.size
        clear hT hC hc1 HOWN
        have hlv : lenOf (.slice av out.length cv) = out.length := rfl
        go_wp2_with (at_builtin; go_must (refine wpList_append_own _ rfl _ _ 26 rfl w.heap.size 3 i0 (.int .i64 0) 1 8 Try.underlying26 hi0 hz0 hz1 hz2 rfl (by decide) (.slice av out.length cv) out.length _ rfl (HO1.out.alloc _) ⟨w1.heap.size, 0, none⟩ 1 1 [.int .i64 x.id] rfl rfl (cell_one_new _ _ _) (by simp [Value.oneCell']) (by unfold maxLen; omega) (by omega) (by simp; omega) ?_); go_must (intro v1 w3 hown1 hg1 _))
        obtain ⟨a1, c1, hv1⟩ := owns_len hown1
        subst hv1
        have hC3 : Chg [q] w w3 := (hC1.alloc _).grown hg1 (fun k hk => by rcases owns_block HO1.out k hk with e | e; simp at e; exact .inr e)
        have hT3 : RefT w3 q G1 M := by
          have hg2 : Chg (match (Value.slice av out.length cv).ownBlock with | some k => [k] | none => []) w1 w3 := ((Chg.refl _ w1).alloc _).grown hg1 (fun k hk => by rw [hk]; simp)
          refine hT1.chg hg2 ?_
          intro y hy hx
          split at hx
          · rename_i k hk
            simp at hx
            subst hx
            rcases List.mem_cons.1 hy with e | e
            · rcases owns_block HO1.out _ hk with e2 | e2
              · simp at e2
              · omega
            · exact HG2.out _ e hk
          · simp at hx
        have HO3 := Lib.hid hown1
        have hv3lt : ∀ g, (Value.slice a1 (out.length + 1) c1).ownBlock = some g → g < w3.heap.size := by
          intro g hg
          obtain ⟨_, hh⟩ := hown1
          rcases hh with ⟨e, _⟩ | ⟨g', cap, cur, e, _, hb, _⟩
          · rw [e] at hg; simp [Value.ownBlock] at hg
          · rw [e] at hg; simp [Value.ownBlock] at hg; subst hg; exact lt_of_block hb
        have HLT := Lib.hid hv3lt
        clear hT1 hC1 HO1 hg1 hv3lt hown1
        go_wp2_with fail
        refine (rdrop_any q G1 M _ x.id _ hT3 (Lib.hid rfl)).mono ?_
        rintro e w4 ⟨rfl, ⟨G4, hT4, hG4⟩, hc4⟩
        have hC4 := hC3.trans hc4
        have HG4 := Lib.hid hG4
        have hsz3 := hC3.size
        have HO4 : Hid (OwnZ w.heap.size w4 (.slice a1 (out.length + 1) c1) (out ++ [x.id])) := Lib.hid (OwnZ.chg (OwnZ.snoc HO3.out) hc4 (by simpa using hq))
        clear hG4 hT3 hC3 hc4 HO3
        go_wp2
        go_roundw
        case rel =>
          obtain ⟨hd, hr, hl⟩ := HD.out
          obtain ⟨s1, s2⟩ := HS.out
          refine ⟨out ++ [x.id], delL M x.id, G4, HO4.out, hT4, hok2, hC4, ?_, ?_, ?_, by rw [← hr, s2], ?_⟩
          · intro g hg
            right
            have := HG4.out g hg
            omega
          · intro g hg e
            have h1 := HG4.out g hg
            have h2 := HLT.out g e
            omega
          · rw [← hd, s1, List.append_assoc]; rfl
          · have := HML.out
            rw [List.length_append, List.length_cons, List.length_nil]
            omega
        case measure =>
          obtain ⟨hd, hr, hl⟩ := HD.out
          have := HML.out
          simp [lenOf]; omega
      · have t1 : decide (now < x.due) = true := by simp; omega
        have HS : Hid (dueL M now = [] ∧ restL M now = M) := Lib.hid (due_none fun y hy => by
          have := hmin.2 y hy
          rw [leI_iff] at this
          omega)
        go_wp2_with fail
        refine (rnext_some q G1 M _ p x hT hok HXX).mono ?_
        rintro e w1 ⟨rfl, hc1⟩
        have HT := Lib.hid (hT.same hc1)
        have HC := Lib.hid (hC.trans (hc1.mono (by simp)))
        clear hT hC
        go_wp2
        go_ret
        obtain ⟨hd, hr, hl⟩ := HD.out
        obtain ⟨s1, s2⟩ := HS.out
        refine ⟨_, rfl, ?_, ⟨G1, by rw [← hr, s2]; exact HT.out, HG1.out⟩, HC.out⟩
        rw [← hd, s1, List.append_nil]
        exact OwnZ.chg HOWN.out hc1 (by simp)
end

end Go.Proofs.Ytlkhaookdmgbnaa
