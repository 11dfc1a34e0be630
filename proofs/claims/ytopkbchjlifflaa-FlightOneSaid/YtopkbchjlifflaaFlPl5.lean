/- Questions under way, as plain data: each is under way once; what Begin answers. -/
import Derived.Test.YtopkbchjlifflaaFlO
namespace Go.Proofs.Ytopkbchjlifflaa

theorem all_le (n : Nat) : ∀ (l : List Nat), (∀ i, i < n → i ∈ l) → n ≤ l.length := by
  induction n with
  | zero => intro l _; exact Nat.zero_le _
  | succ n ih =>
    intro l h
    have h1 := ih (l.erase n) (fun i hi => (List.mem_erase_of_ne (by omega)).2 (h i (by omega)))
    have h2 : (l.erase n).length = l.length - 1 := List.length_erase_of_mem (h n (by omega))
    have h3 := List.length_pos_of_mem (h n (by omega))
    omega
theorem OkF.codes {n m : Nat} {L : List Fl} (h : OkF n m L) {q : Qs} (hm : mayB q.name = true) :
    ∃ L' r e, beginF L n q = (L', r, e) ∧ ((e = 7 ∧ findIs L q = true) ∨ (e = 0 ∧ findIs L q = false ∧ L.length < n) ∨ (e = 9 ∧ findIs L q = false ∧ n ≤ L.length)) := by
  unfold beginF findIs
  rw [hm, if_pos rfl, Bool.true_and]
  by_cases h2 : (findF L (foldQ q)).isSome = true
  · rw [if_pos h2]
    exact ⟨_, _, _, rfl, .inl ⟨rfl, h2⟩⟩
  · rw [if_neg h2]
    have h2' : (findF L (foldQ q)).isSome = false := by simpa using h2
    have hsl : (slotsF L).length = L.length := by simp [slotsF]
    rcases freeF_spec L n n 0 (by omega) with ⟨h3, h4⟩ | ⟨i, h3, _, h5, h6, _⟩
    · rw [h3]
      refine ⟨_, _, _, rfl, .inr (.inr ⟨rfl, h2', ?_⟩)⟩
      rw [← hsl]
      refine all_le n _ fun i hi => ?_
      obtain ⟨f, hf, e⟩ := usedF_iff.1 (h4 i (by omega) hi)
      exact List.mem_map.2 ⟨f, hf, e⟩
    · rw [h3]
      refine ⟨_, _, _, rfl, .inr (.inl ⟨rfl, h2', ?_⟩)⟩
      have := nodupF_le n (i :: slotsF L) (by
        rw [List.nodup_cons]
        refine ⟨fun hh => ?_, h.slots⟩
        obtain ⟨f, hf, e⟩ := List.mem_map.1 hh
        have := usedF_iff.2 ⟨f, hf, e⟩
        rw [h6] at this
        cases this) (by
        intro x hx
        rcases List.mem_cons.1 hx with rfl | hx
        · exact h5
        · obtain ⟨f, hf, rfl⟩ := List.mem_map.1 hx
          exact h.low f hf)
      simp [slotsF] at this
      omega
theorem find_low {L : List Fl} {q : Qs} (hm : mayB q.name = true) : findAt L (foldQ q) = findAt L q ∧ findIs L (foldQ q) = findIs L q := by
  have h1 : mayB (foldQ q).name = true := mayB_fold hm
  unfold findAt findIs
  rw [foldQ_again, h1, hm]
  exact ⟨rfl, rfl⟩
theorem find_not {L : List Fl} {q : Qs} (hm : mayB q.name = false) : findIs L q = false := by
  unfold findIs
  rw [hm]
  rfl
/-- What the one at place i is told to be. -/
structure OneF (n m : Nat) (L : List Fl) (i s : Nat) (q : Qs) : Prop where
  quest : q = questF L (s : Int)
  use : useF L (s : Int) = true
  find : s = findAt L q
  is : true = findIs L q
  wait : waitsF L (s : Int) ≤ m
  fold : foldL q.name = q.name
  slot : s < n
  okq : OkQ q
  nq : ∀ k (hk : k < L.length), k < i → L[k].q ≠ q
  ns : ∀ k (hk : k < L.length), k < i → L[k].slot ≠ s
theorem OkF.one {n m : Nat} {L : List Fl} (h : OkF n m L) {i : Nat} (hi : i < L.length) : OneF n m L i L[i].slot L[i].q := by
  have hm : L[i] ∈ L := List.getElem_mem hi
  have hg := getF_of h.slots hm
  have hu : usedF L L[i].slot = true := usedF_iff.2 ⟨_, hm, rfl⟩
  have huse : useF L (L[i].slot : Int) = true := by unfold useF; simp [hu]
  have hmay := h.name _ hm
  have hfo : foldQ L[i].q = L[i].q := by unfold foldQ; rw [hmay.2]
  have hfd := findF_of h.qs hm
  refine ⟨?_, huse, ?_, ?_, ?_, hmay.2, h.low _ hm, h.okQ _ hm, ?_, ?_⟩
  · unfold questF; rw [huse]; simp [qsF, hg]
  · unfold findAt; rw [hmay.1, hfo, hfd]; rfl
  · unfold findIs; rw [hmay.1, hfo, hfd]; rfl
  · unfold waitsF; rw [huse]; simp [wsF, hg]; exact h.wait _ hm
  · intro k hk hki e
    have h1 := List.pairwise_iff_getElem.1 h.qs k i (by simpa using hk) (by simpa using hi) hki
    exact h1 (by simp [e])
  · intro k hk hki e
    have h1 := List.pairwise_iff_getElem.1 h.slots k i (by simpa [slotsF] using hk) (by simpa [slotsF] using hi) hki
    exact h1 (by simp [slotsF, e])

end Go.Proofs.Ytopkbchjlifflaa
