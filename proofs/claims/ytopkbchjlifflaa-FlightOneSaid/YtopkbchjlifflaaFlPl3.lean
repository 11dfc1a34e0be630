/- Questions under way: what is over, and begun again. -/
import Derived.Test.YtopkbchjlifflaaFlPl2
namespace Go.Proofs.Ytopkbchjlifflaa

structure AgainF (n : Nat) (L : List Fl) (k s : Nat) (f : Fl) (at' : Nat) : Prop where
  slot : f.slot = s
  mem : f ∈ L
  used : usedF L s = true
  get : getF L s = some f
  gone : findF (endF L s) f.q = none
  free : usedF (endF L s) s = false
  rest : slotsF (endF L s) = (slotsF L).take k ++ (slotsF L).drop (k + 1)
  fr : freeF (endF L s) n n 0 = some at'
  le : at' ≤ s
  new : usedF (endF L s) at' = false
  may : mayB f.q.name = true
  fold : foldQ f.q = f.q
theorem OkF.again {n m : Nat} {L : List Fl} (h : OkF n m L) {k : Nat} (hk : k < (slotsF L).length) : ∃ f a, AgainF n L k (slotsF L)[k] f a := by
  have hkl : k < L.length := by simpa [slotsF] using hk
  have hs : (slotsF L)[k] = L[k].slot := by simp [slotsF]
  have hm : L[k] ∈ L := List.getElem_mem hkl
  have hg := getF_of h.slots hm
  have hu : usedF L L[k].slot = true := usedF_iff.2 ⟨_, hm, rfl⟩
  have hfree : usedF (endF L L[k].slot) L[k].slot = false := by rw [endF_used]; simp
  rcases freeF_spec (endF L L[k].slot) n n 0 (by omega) with ⟨_, h2⟩ | ⟨a, h1, _, _, h4, h5⟩
  · have := h2 L[k].slot (by omega) (h.low _ hm)
    rw [hfree] at this
    exact absurd this (by simp)
  · refine ⟨L[k], a, ?_⟩
    rw [hs]
    refine ⟨rfl, hm, hu, hg, ?_, hfree, ?_, h1, ?_, h4, (h.name _ hm).1, ?_⟩
    · rw [findF_none_iff]
      intro g hg2 e
      unfold endF at hg2
      rw [List.mem_filter] at hg2
      have e1 := findF_of h.qs hm
      have e2 := findF_of h.qs hg2.1
      rw [e, e1] at e2
      have := hg2.2
      simp at this e2
      exact this e2.symm
    · rw [endF_slots, nodup_cut _ h.slots k hk, hs]
    · refine Nat.le_of_not_lt fun hlt => ?_
      have := h5 L[k].slot (by omega) hlt
      rw [hfree] at this
      exact absurd this (by simp)
    · have := (h.name _ hm).2
      unfold foldQ
      rw [this]

end Go.Proofs.Ytopkbchjlifflaa
