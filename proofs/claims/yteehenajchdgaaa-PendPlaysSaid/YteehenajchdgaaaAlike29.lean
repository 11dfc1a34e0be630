/- The program's table of IDs and the document's, side by side; alike. -/
import Derived.Test.YteehenajchdgaaaPendRef2
import Derived.Test.YteehenajchdgaaaPendFreeW
import Derived.Deep.RegionHeld3
namespace Go.Proofs.Yteehenajchdgaaa
open Go.RowKit Go.Maps

set_option maxHeartbeats 2000000 in
theorem alike_any (tb : Nat) (ms : List Nat) (n q : Nat) (L : List Ou) (w : World) (h : PTab w tb ms n L) (hx : RTab w q n L) :
    Calls Try.prog 27 #[.pointer (some ⟨tb, 0, none⟩), .pointer (some ⟨q, 0, none⟩)] w fun e w' => e = .returned (.bool true) ∧ Chg [] w w' := by
  have h9 := h.n9
  obtain ⟨hl0, v, h1, h2⟩ := id hx
  obtain ⟨av, cv, rfl⟩ := h2.len
  have c0 : w.cell? ⟨q, 0, none⟩ = some (.int .i64 n) := cell_of h1
  have c1 : w.cell? ⟨q, 0 + 1, none⟩ = some (.slice av L.length cv) := cell_of h1
  have H2 := Lib.hid h2
  clear h1 h2
  go_enter Try.func27, Try.ntmps27
  go_wp2_with fail
  go_loop [5] (fun v => ∃ k : Int, -1 ≤ k ∧ k ≤ (n : Int) + 1 ∧ v = .int .i64 k) (fun v => ((n : Int) + 1 - intOf v).toNat)
  case atStart => exact ⟨-1, by omega, by omega, rfl⟩
  case round =>
    obtain ⟨k, hk1, hk2, rfl⟩ := hrel
    by_cases hlt : k ≤ (n : Int)
    · obtain ⟨m, hm⟩ : ∃ m, m = lenO L k := ⟨_, rfl⟩
      have HM := Lib.hid hm
      clear hm
      go_wp2_with fail
      refine (len_any tb ms n L w k m h HM).mono ?_
      rintro e w1 ⟨rfl, rfl⟩
      go_wp2_with fail
      refine (rlen_any q n L w k m hx HM).mono ?_
      rintro e w1 ⟨rfl, rfl⟩
      go_wp2
      go_round
      case rel => exact ⟨k + 1, by omega, by omega, rfl⟩
      case measure => simp [intOf] <;> omega
    · go_wp2_with fail
      clear hlt hk1 hk2
      go_loopw [6] (fun v wr => ∃ j : Nat, j ≤ L.length ∧ v = .int .i64 (j : Nat) ∧ Chg [] w wr) (fun v _ => L.length - (intOf v).toNat)
      case atStart => exact ⟨0, Nat.zero_le _, rfl, Chg.refl _ _⟩
      case round =>
        obtain ⟨j, hj, rfl, hck⟩ := hrel
        have k1 := hck.cell c1 (by simp)
        by_cases hlt : j < L.length
        · obtain ⟨g, c, hv, _, _, hxx⟩ := H2.out.cells ouV_len (by omega)
          injection hv with hv1 _ _
          subst hv1
          obtain ⟨o, hoj⟩ : ∃ o, o = L[j] := ⟨_, rfl⟩
          have d0 := hck.cell (hxx j hlt 0 (.int .i64 o.u) (by rw [← hoj]; rfl)) (by simp)
          have d1 := hck.cell (hxx j hlt 1 (.int .i64 o.slot) (by rw [← hoj]; rfl)) (by simp)
          have d2 := hck.cell (hxx j hlt 2 (.int .u16 (o.id : Nat)) (by rw [← hoj]; rfl)) (by simp)
          rw [Nat.add_zero] at d0
          have hom : o ∈ L := by rw [hoj]; exact List.getElem_mem hlt
          have hid := h.ok.i o hom
          have E1 : Hid (o.slot = atO L o.u o.id) := Lib.hid (h.ok.at hom).symm
          have E2 : Hid (true = hasO L o.u o.id) := Lib.hid (hasO_iff.2 ⟨o, hom, rfl, rfl⟩).symm
          have hfind := fun (m : Nat) => find_any tb ms n L (wr.drewN m) o.u o.id o.slot true ((h.same hck).same ((Chg.refl [] _).drewN m)) hid E1 E2
          clear hxx hoj hom E1 E2
          go_wp2_with fail
          go_quiet ((go_at_call 13; exact Calls.quiet_of_same ((hfind _).mono fun e w' h => ⟨h.1, h.2.symm⟩)))
          go_wp2
          go_roundw
          case rel => exact ⟨j + 1, by omega, by go_num, hck.drewN _⟩
          case measure => simp [intOf] <;> omega
        · go_wp2
          go_ret
          exact ⟨rfl, hck⟩

/-- Both, with their tapes; all made since w0. -/
structure PP (w0 w : World) (tb : Nat) (ms : List Nat) (n b q br seed : Nat) (l : List Nat) (st sx : PS) : Prop where
  tt : TT w tb ms n b seed l st
  x : RTab w q n sx.L
  y : D.RTape w br seed l sx.k
  lo : ∀ y ∈ b :: ms, w0.heap.size ≤ y
  loq : w0.heap.size ≤ q
  lor : w0.heap.size ≤ br
  chg : Chg [] w0 w
section
variable {w0 w w' : World} {tb : Nat} {ms : List Nat} {n b q br seed : Nat} {l : List Nat} {st sx : PS}
theorem PP.same (h : PP w0 w tb ms n b q br seed l st sx) (hc : Chg [] w w') : PP w0 w' tb ms n b q br seed l st sx :=
  ⟨h.tt.same hc, h.x.same hc, rtape_chg h.y hc (odd_nil _) (by simp), h.lo, h.loq, h.lor, h.chg.trans hc⟩
/-- No block of the document's is one of the program's. -/
theorem cells_not {k : Nat} {c : Array Value} {t : TypeId} {f : Nat × Nat} (h : TT w tb ms n b seed l st) (hk : w.heap[k]? = some (.cells c t f)) (ht : t ≠ 76) : k ∉ b :: ms := by
  intro hh
  rcases List.mem_cons.1 hh with e | e
  · subst e
    obtain ⟨nb, sb, v, h1, _⟩ := h.tape
    rw [h1] at hk
    cases hk
    exact ht rfl
  · obtain ⟨i, hi, rfl⟩ := List.getElem_of_mem e
    obtain ⟨es, clock, hb⟩ := (h.tab.maps i hi).map
    rw [hb] at hk
    cases hk
theorem PP.qn (h : PP w0 w tb ms n b q br seed l st sx) : q ∉ b :: ms := by
  obtain ⟨_, v, h1, _⟩ := h.x
  exact cells_not h.tt h1 (by decide)
theorem PP.rn (h : PP w0 w tb ms n b q br seed l st sx) : br ∉ b :: ms := by
  obtain ⟨v, h1, _⟩ := h.y
  exact cells_not h.tt h1 (by decide)
theorem PP.tstep (h : PP w0 w tb ms n b q br seed l st sx) {st' : PS} (k : TT w' tb ms n b seed l st') (hc : Chg (b :: ms) w w') : PP w0 w' tb ms n b q br seed l st' sx :=
  ⟨k, h.x.chg hc h.tt.odd h.qn, rtape_chg h.y hc h.tt.odd h.rn, h.lo, h.loq, h.lor, h.chg.trans_new hc fun y hy => .inr (h.lo y hy)⟩
theorem PP.xstep (h : PP w0 w tb ms n b q br seed l st sx) {sx' : PS} (k1 : RTab w' q n sx'.L) (k2 : D.RTape w' br seed l sx'.k) (hc : Chg [br, q] w w') : PP w0 w' tb ms n b q br seed l st sx' := by
  have hodd : Odd [br, q] w := by
    intro k hk
    rcases List.mem_cons.1 hk with e | e
    · exact rtape_odd h.y k (by simp [e])
    · exact h.x.odd k e
  have hn : ∀ y ∈ b :: ms, y ∉ [br, q] := by
    intro y hy e
    simp at e
    rcases e with e | e
    · subst e; exact h.rn hy
    · subst e; exact h.qn hy
  refine ⟨⟨h.tt.tab.chg hc hodd (fun m hm => hn m (List.mem_cons_of_mem _ hm)), tape_chg h.tt.tape hc hodd (hn b (by simp))⟩, k1, k2, h.lo, h.loq, h.lor, h.chg.trans_new hc ?_⟩
  intro y hy
  simp at hy
  rcases hy with e | e
  · rw [e]; exact .inr h.lor
  · rw [e]; exact .inr h.loq
/-- Only the document's table turns. -/
theorem PP.xq (h : PP w0 w tb ms n b q br seed l st sx) {L' : List Ou} (k1 : RTab w' q n L') (hc : Chg [q] w w') : PP w0 w' tb ms n b q br seed l st ⟨L', sx.k⟩ := by
  have hbq : br ∉ [q] := by
    intro e
    simp at e
    subst e
    obtain ⟨v, h1, _⟩ := h.y
    obtain ⟨_, v', h2, _⟩ := h.x
    rw [h1] at h2
    cases h2
  exact h.xstep k1 (rtape_chg h.y hc h.x.odd hbq) (hc.mono (by simp))
end

end Go.Proofs.Yteehenajchdgaaa
