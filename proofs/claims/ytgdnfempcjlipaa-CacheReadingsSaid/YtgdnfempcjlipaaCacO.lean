/- The walk of Row. -/
import Derived.Test.YtgdnfempcjlipaaCacN
namespace Go.Proofs.Ytgdnfempcjlipaa
open Go.RowKit Go.Maps

/-- A question's three cells. -/
def qL (q : Qn) : List Value := [.string q.nm, .int .u16 (q.ty : Nat), .int .u16 (q.cl : Nat)]
theorem qL_len (q : Qn) : (qL q).length = 3 := rfl
theorem qL_one (q : Qn) : ∀ u ∈ qL q, u.oneCell' = true := by
  intro u hu
  simp [qL] at hu
  rcases hu with rfl | rfl | rfl <;> rfl
theorem elem_q : (Try.prog.info? 24).map (fun i => (i.zero.map fun z => z.cells.size, i.size, i.bytes)) = some (some 3, 3, 24) := by kernel_rfl
theorem flat_int (l : List Nat) : l.flatMap intV = l.map fun (x : Nat) => Value.int .i64 x := by
  induction l with
  | nil => rfl
  | cons x l ih => rw [List.flatMap_cons, ih]; rfl
theorem ownI_cells {base : Nat} {w : World} {v : Value} {l : List Nat} (h : Lr.OwnI base w v l) : (∃ a c, v = .slice a l.length c) ∧ (0 < l.length → ∃ g c, v = .slice (some ⟨g, 0, none⟩) l.length c ∧ base ≤ g ∧ g < w.heap.size ∧ ∀ i (hi : i < l.length), w.cell? ⟨g, i, none⟩ = some (.int .i64 (l[i] : Nat))) := by
  have h2 : R.OwnR 3 1 intV base w v l := by
    unfold R.OwnR
    rw [flat_int]
    exact h
  refine ⟨h2.len, fun h0 => ?_⟩
  obtain ⟨g, c, e1, e2, e3, e4⟩ := h2.cells intV_len h0
  refine ⟨g, c, e1, e2, e3, fun i hi => ?_⟩
  have := e4 i hi 0 (.int .i64 (l[i] : Nat)) rfl
  rw [Nat.mul_one, Nat.add_zero] at this
  exact this
def RowR (w w1 : World) (qs : List Qn) (v i : Value) (wr : World) : Prop := ∃ j : Nat, j ≤ qs.length ∧ i = .int .i64 (j : Nat) ∧ R.OwnR 24 3 qL w1.heap.size wr v (qs.take j) ∧ Chg [] w1 wr

section
variable (F : List Nat) (cb n k0 k1 : Nat) (c : Cst) (P : Nat) (w : World)
set_option maxRecDepth 100000 in
set_option maxHeartbeats 4000000 in
theorem row_any (h : CA F w cb n k0 k1 c P) :
    Calls Try.prog 21 #[.pointer (some ⟨cb, 0, none⟩)] w fun e w' => ∃ v, e = .returned v ∧ R.OwnR 24 3 qL w.heap.size w' v (c.M.map (·.q)) ∧ Chg [] w w' := by
  obtain ⟨L, p, m, ⟨K, T, ⟨eb, mb, lb, tb, cp, tl, FT, f, es, hC, hF⟩, hcon, hs⟩, h2, h3, h4, h5⟩ := h
  obtain ⟨i0, z, hi0, hz0, hz1, hz2, hz3⟩ := info_sizes elem_q
  have c5 : w.cell? ⟨cb, 6, none⟩ = some (.pointer (some ⟨lb, 0, none⟩)) := cell_of hC.head
  obtain ⟨qs, hqs⟩ : ∃ qs, qs = c.M.map (·.q) := ⟨_, rfl⟩
  obtain ⟨row, hrow⟩ : ∃ row, row = rowS L := ⟨_, rfl⟩
  have hlen : row.length = qs.length := by rw [hrow, hqs, ← h2]; simp [rowS, ensS]
  have hql : qs.length ≤ 256 := by rw [hqs, List.length_map]; have := h3.len; have := hC.lru.1; omega
  have hq : ∀ j (h : j < row.length) (h' : j < qs.length), ∃ en : EnV, ∃ hs : row[j] < es.length, es[row[j]] = en ∧ en.q = qs[j] := by
    intro j h h'
    have hjL : j < L.length := by rw [hrow] at h; simpa [rowS] using h
    have e1 : row[j] = L[j].s := by simp [hrow, rowS]
    have e2 : qs[j] = L[j].e.q := by simp [hqs, ← h2, ensS]
    obtain ⟨k1, k2⟩ := hC.eok L[j] (List.getElem_mem hjL)
    refine ⟨_, by rw [e1]; exact k1, rfl, ?_⟩
    have e3 : es[row[j]]'(by rw [e1]; exact k1) = es[L[j].s]'k1 := by simp only [e1]
    rw [e3, e2]
    exact (k2 k1).q
  rw [← hqs]
  rw [← hrow] at hC
  have HC := Lib.hid hC
  have HQ := Lib.hid hq
  have HLEN := Lib.hid hlen
  clear hC hF hcon hs h2 h3 hqs hrow hq
  go_enter Try.func21, Try.ntmps21
  go_wp2_with fail
  refine (Lr.row_any lb n row w HC.out.lru).mono ?_
  rintro e9 w1 ⟨v1, rfl, ho1, hc1⟩
  obtain ⟨⟨a1, c1, rfl⟩, hcells⟩ := ownI_cells ho1
  obtain ⟨ln, hln⟩ : ∃ ln, ln = row.length := ⟨_, rfl⟩
  rw [← hln]
  rw [HLEN.out] at hln
  rw [← hln] at hql
  have HCELLS := Lib.hid hcells
  have HLN := Lib.hid hln
  have HC1 := Lib.hid (HC.out.other hc1 (by simp) (noSet_nil w))
  have HCH1 := Lib.hid hc1
  clear hcells hln ho1 hc1 HC c5
  go_wp2_with fail
  go_loopw [3, 14] (fun v i wr => RowR w w1 qs v i wr) (fun _ i _ => ln - (intOf i).toNat)
  case atStart => exact ⟨0, Nat.zero_le _, rfl, R.OwnR.nil _ _ _ _ _, Chg.refl _ _⟩
  case round =>
    obtain ⟨j, hj, rfl, ho, hc⟩ := hrel
    rw [← HLN.out] at hj
    by_cases hlt : j < ln
    · have hjq : j < qs.length := by rw [← HLN.out]; exact hlt
      have hjr : j < row.length := by rw [HLEN.out]; exact hjq
      obtain ⟨g, c3, hv, hg1, hg2, hcell⟩ := HCELLS.out (by have := HLEN.out; omega)
      injection hv with hv1 hv2 hv3
      subst hv1
      subst hv3
      obtain ⟨s, hs⟩ : ∃ s, s = row[j] := ⟨_, rfl⟩
      obtain ⟨en, hse, hen, henq⟩ := HQ.out j hjr hjq
      obtain ⟨q, hq⟩ : ∃ q, q = qs[j] := ⟨_, rfl⟩
      have d0 : wr.cell? ⟨g, j, none⟩ = some (.int .i64 (s : Nat)) := by rw [hs]; exact hc.cell (hcell j hjr) (by simp)
      have hCw := HC1.out.other hc (by simp) (noSet_nil w1)
      simp only [← hs] at hse hen
      rw [← hq] at henq
      subst henq
      have c4 : wr.cell? ⟨cb, 4, none⟩ = some (.slice (some ⟨eb, 0, none⟩) n cp) := cell_of hCw.head
      have e0 : wr.cell? ⟨eb, s * 7, none⟩ = some (.string en.q.nm) := by rw [cell_of hCw.ents]; exact eRow_get hse (j := 0) (by rw [hen]; rfl)
      have e1 : wr.cell? ⟨eb, s * 7 + 1, none⟩ = some (.int .u16 (en.q.ty : Nat)) := by rw [cell_of hCw.ents]; exact eRow_get hse (j := 1) (by rw [hen]; rfl)
      have e2 : wr.cell? ⟨eb, s * 7 + 2, none⟩ = some (.int .u16 (en.q.cl : Nat)) := by rw [cell_of hCw.ents]; exact eRow_get hse (j := 2) (by rw [hen]; rfl)
      have hsn : s < n := by rw [← hCw.elen]; exact hse
      obtain ⟨⟨nm, ty, cl⟩, ec, esv, eov, etil⟩ := en
      simp only at e0 e1 e2 hq
      have hlj : (qs.take j).length = j := by simp; omega
      obtain ⟨va, vc, hva⟩ := ho.len
      rw [hlj] at hva
      subst hva
      have hown : wr.ownsRow w1.heap.size 24 3 (.slice va j vc) j ((qs.take j).flatMap qL) := by
        have := ho
        unfold R.OwnR at this
        rw [hlj] at this
        exact this
      have hbk : ∀ k, (Value.slice va j vc).ownBlock = some k → w1.heap.size ≤ k := fun k hk => (ho.blk k hk).1
      have hstep : ∀ v9 w9, (wr.alloc (.cells #[.string nm, .int .u16 (ty : Nat), .int .u16 (cl : Nat)] 24)).grownBy w9 (Value.slice va j vc).ownBlock → w9.ownsRow w1.heap.size 24 3 v9 (j + 1) ((qs.take j).flatMap qL ++ [.string nm, .int .u16 (ty : Nat), .int .u16 (cl : Nat)]) → R.OwnR 24 3 qL w1.heap.size w9 v9 (qs.take (j + 1)) ∧ Chg [] w1 w9 := by
        intro v9 w9 hg9 ho9
        refine ⟨?_, R.chg_grown (hc.alloc _) hg9 hbk⟩
        rw [List.take_succ_eq_append_getElem hjq, ← hq]
        refine R.OwnR.snoc ?_
        rw [hlj]
        exact ho9
      have HOWN := Lib.hid hown
      have HSTEP := Lib.hid hstep
      have HONE := Lib.hid (qL_one ⟨nm, ty, cl⟩)
      have hsz := hc.size
      have hb1 : j + 1 ≤ maxLen := by unfold maxLen; omega
      have HB1 := Lib.hid hb1
      clear ho hown hstep hb1 hlj hbk hcell hCw hs hen hq hse
      go_wp2_with (first
        | (at_builtin; go_must (refine wpList_append_own _ rfl _ _ 43 rfl w1.heap.size 24 i0 z 3 24 Try.underlying43 hi0 hz0 hz1 hz2 hz3 (by omega) _ _ _ rfl (HOWN.out.alloc _) ⟨_, 0, none⟩ 1 1 [.string nm, .int .u16 (ty : Nat), .int .u16 (cl : Nat)] rfl rfl ?_ HONE.out HB1.out (by omega) (by simp; omega) ?_))
        | go_in)
      · intro v9 w9 ho9 hg9 _
        obtain ⟨xa, xc, rfl⟩ : ∃ a c, v9 = .slice a (j + 1) c := by
          obtain ⟨_, ho9⟩ := ho9
          rcases ho9 with ⟨_, h0⟩ | ⟨g9, cap9, cur9, rfl, _⟩
          · omega
          · exact ⟨_, _, rfl⟩
        have S9 := Lib.hid (HSTEP.out _ w9 hg9 ho9)
        clear ho9 hg9
        go_wp2
        go_roundw
        case rel => exact ⟨j + 1, by omega, by go_num, S9.out.1, S9.out.2⟩
        case measure => simp [intOf] <;> omega
    · obtain rfl : j = ln := by omega
      have ho2 := ho
      rw [HLN.out, List.take_of_length_le (Nat.le_refl _)] at ho2
      have HO := Lib.hid (ho2.low HCH1.out.size)
      have HCW := Lib.hid (HCH1.out.trans hc)
      clear ho ho2 hc
      go_wp2
      go_ret
      exact ⟨_, rfl, HO.out, HCW.out⟩
end

end Go.Proofs.Ytgdnfempcjlipaa
