/- The document's table of questions under way: Copy, End. -/
import Derived.Test.YtopkbchjlifflaaFlT
import Derived.Test.YtopkbchjlifflaaAppOwn
import Derived.Deep.RegionLaw
namespace Go.Proofs.Ytopkbchjlifflaa
open Go.RowKit Go.Maps

theorem rf_one (l : List RF) (h : ∀ r ∈ l, ∃ a n c, r.v = .slice a n c) : ∀ u ∈ l.flatMap rfV, u.oneCell' = true := by
  intro u hu
  obtain ⟨x, hx0, hx⟩ := List.mem_flatMap.1 hu
  obtain ⟨a, n, c, e⟩ := h x hx0
  simp [rfV, e] at hx
  rcases hx with rfl | rfl | rfl | rfl | rfl <;> rfl
theorem elem_rf : (Try.prog.info? 98).map (fun i => (i.zero.map fun z => z.cells.size, i.size, i.bytes)) = some (some 5, 5, 56) := by kernel_rfl
/-- What an act on the document's table leaves: of blocks that were its own or are new. -/
def RNext (G : List Nat) (w w' : World) (x n m : Nat) (L : List Fl) : Prop := ∃ G', RT G' w' x n m L ∧ Chg G w w' ∧ ∀ y ∈ G', y ∈ G ∨ w.heap.size ≤ y
theorem RNext.refl {G : List Nat} {w w' : World} {x n m : Nat} {L : List Fl} (h : RT G w x n m L) (hc : Chg [] w w') : RNext G w w' x n m L :=
  ⟨G, h.same hc, hc.mono (by simp), fun y hy => .inl hy⟩
theorem c3_chg {w w' : World} {b : Nat} {x y z : Value} (h : w.cell? ⟨b, 0, none⟩ = some x ∧ w.cell? ⟨b, 1, none⟩ = some y ∧ w.cell? ⟨b, 2, none⟩ = some z) (hc : Chg [] w w') : w'.cell? ⟨b, 0, none⟩ = some x ∧ w'.cell? ⟨b, 1, none⟩ = some y ∧ w'.cell? ⟨b, 2, none⟩ = some z :=
  ⟨hc.cell h.1 (by simp), hc.cell h.2.1 (by simp), hc.cell h.2.2 (by simp)⟩
theorem RTs.vs {G : List Nat} {w : World} {x n m : Nat} {L : List Fl} {v : Value} {rs : List RF} (h : RTs G w x n m L v rs) : ∀ r ∈ rs, ∃ a n c, r.v = .slice a n c := by
  intro r hr
  obtain ⟨i, hi, rfl⟩ := List.getElem_of_mem hr
  have := (h.recs i hi (by rw [← h.len]; exact hi)).ws
  obtain ⟨a, c, e⟩ := this.slice
  exact ⟨a, _, c, e⟩
theorem ownRF {base : Nat} {w : World} {v : Value} {l : List RF} {n : Nat} (h : w.ownsRow base 98 5 v (0 + l.length) ([] ++ l.flatMap rfV)) (hn : n = l.length) : ∃ a c, v = .slice a n c ∧ R.OwnR 98 5 rfV base w (.slice a n c) l := by
  subst hn
  rw [Nat.zero_add, List.nil_append] at h
  obtain ⟨a, c, rfl⟩ := R.OwnR.len (t := 98) (sz := 5) (f := rfV) h
  exact ⟨a, c, rfl, h⟩
section
variable (G : List Nat) (x n m : Nat) (L : List Fl) (w : World)
set_option maxRecDepth 100000 in
set_option maxHeartbeats 4000000 in
theorem rcopy_any (h : RT G w x n m L) :
    Calls Try.prog 31 #[.pointer (some ⟨x, 0, none⟩)] w fun e w' => ∃ x', e = .returned (.pointer (some ⟨x', 0, none⟩)) ∧ RNext G w w' x' n m L ∧ Chg [] w w' := by
  obtain ⟨v, rs, hT⟩ := h
  obtain ⟨av, cv, hv⟩ := hT.row.len
  obtain ⟨ln, hln⟩ : ∃ ln, ln = rs.length := ⟨_, rfl⟩
  have hl32 : ln ≤ 32 := by have := hT.ok.len; have := hT.n32; have := hT.len; omega
  rw [← hln] at hv
  subst hv
  have c0 : w.cell? ⟨x, 0, none⟩ = some (.int .i64 (n : Nat)) := cell_of hT.head
  have c1 : w.cell? ⟨x, 1, none⟩ = some (.int .i64 (m : Nat)) := cell_of hT.head
  have c2 : w.cell? ⟨x, 2, none⟩ = some (.slice av ln cv) := cell_of hT.head
  obtain ⟨i0, z, hi0, hz0, hz1, hz2, hz3⟩ := info_sizes elem_rf
  have hnew : (w.alloc (.cells #[] 98)).ownsRow w.heap.size 98 5 (.slice (some ⟨w.heap.size, 0, none⟩) 0 0) 0 [] := R.OwnR.made (α := RF) _ _ rfV w
  have hrow := hT.row.same ((Chg.refl [] w).alloc (.cells #[] 98))
  rw [hln] at hrow
  have hsrc := hrow.src
  have hfl := R.flat_len rfV 5 rfV_len rs
  rw [← hln] at hfl
  have hone := rf_one rs hT.vs
  have HNEW := Lib.hid hnew
  have HSRC := Lib.hid hsrc
  have HFL := Lib.hid hfl
  have HONE := Lib.hid hone
  have HT := Lib.hid hT
  have HLN := Lib.hid hln
  have S0 := Lib.hid (And.intro c0 (And.intro c1 c2))
  clear hnew hrow hsrc hfl hone hT hln c0 c1 c2
  go_enter Try.func31, Try.ntmps31
  go_wp2_with fail
  go_region_held3 (fun W => W.cell? ⟨x, 0, none⟩ = some (.int .i64 (n : Nat)) ∧ W.cell? ⟨x, 1, none⟩ = some (.int .i64 (m : Nat)) ∧ W.cell? ⟨x, 2, none⟩ = some (.slice av ln cv)) (first | (with_reducible exact S1.out) | exact c3_chg S1.out ((Chg.refl [] w1).alloc _) | exact S0.out | exact c3_chg S0.out ((Chg.refl [] w).alloc _).drew) ((refine step_append_src rfl (.tmp 11) (.tmp 15) 94 rfl w.heap.size 98 i0 z 5 56 Try.underlying94 hi0 hz0 hz1 hz2 hz3 (by decide) (.slice (some ⟨w.heap.size, 0, none⟩) 0 0) 0 [] rfl HNEW.out av ln cv (rs.flatMap rfV) rfl HSRC.out.1 HSRC.out.2.1 HFL.out HSRC.out.2.2 HONE.out (by unfold maxLen; omega) (by omega) (by simp) ?_; intro v1 w1 hown1 hg1 _; rw [HLN.out] at hown1; obtain ⟨a1, c1, rfl, hO⟩ := ownRF hown1 HLN.out; have hc1 : Chg [] w w1 := (((Chg.refl [] w).alloc (.cells #[] 98)).drew).grown hg1 (fun k hk => by injection hk with hk; subst hk; exact .inr (Nat.le_refl _)); have S1 := Lib.hid (c3_chg S0.out hc1)))
  have HO := Lib.hid hO
  have hls : ln = L.length := HLN.out.trans HT.out.len
  clear hown1 hg1 S0 S1 hO
  go_wp2
  go_ret
  have hT1 := HT.out.chg hc1 (by simp)
  have hca : Chg [] w1 (w1.alloc (.cells #[.int .i64 (n : Nat), .int .i64 (m : Nat), .slice a1 ln c1] 96)) := (Chg.refl _ _).alloc _
  have hT2 := hT1.chg hca (by simp)
  have hO2 := HO.out.same hca
  refine ⟨_, rfl, ⟨w1.heap.size :: (blkL (.slice a1 ln c1) ++ G), ⟨.slice a1 ln c1, rs, heap_new _ _, hO2.low (Nat.zero_le _), HT.out.len, fun i hi hi' => ?_, HT.out.ok, HT.out.n1, HT.out.n32, HT.out.m16, by simp, fun g hg => ?_, fun i hi g hg => ?_, fun y hy => ?_⟩, (hc1.trans hca).mono (by simp), fun y hy => ?_⟩, hc1.trans hca⟩
  · have k := hT2.recs i hi hi'
    exact ⟨k.slot, k.q, k.ws, fun g hg => by have := k.blk g hg; simp [this], k.nn⟩
  · have : g ∈ blkL (.slice a1 ln c1) := mem_blkL.2 hg
    simp [this]
  · have k := (HT.out.recs i hi (by rw [← HT.out.len]; exact hi)).blk g hg
    have k2 := HT.out.flt g k
    have k3 := hc1.size
    refine ⟨by omega, fun e => ?_⟩
    have := (HO.out.blk g e).1
    omega
  · simp only [List.mem_cons, List.mem_append] at hy
    rcases hy with e | e | e
    · rw [e]; exact lt_of_block (heap_new _ _)
    · exact (hO2.blk y (mem_blkL.1 e)).2.1
    · exact hT2.flt y e
  · simp only [List.mem_cons, List.mem_append] at hy
    rcases hy with e | e | e
    · rw [e]; exact .inr hc1.size
    · exact .inr (HO.out.blk y (mem_blkL.1 e)).1
    · exact .inl e
end

end Go.Proofs.Ytopkbchjlifflaa
