/- Timers, as plain data: things by their readings and by when they were put; rows that are heaps. -/
import Derived.WalkKit
namespace Go.Proofs.Ytlkhaookdmgbnaa

/-- A thing: its number, when it is due, when it was put. -/
structure It where
  id : Int
  due : Int
  put : Nat
deriving DecidableEq

/-- Does one come ahead of another one? -/
def ltI (a b : It) : Bool := decide (a.due < b.due) || (decide (a.due = b.due) && decide (a.put < b.put))
theorem ltI_iff {a b : It} : ltI a b = true ↔ a.due < b.due ∨ (a.due = b.due ∧ a.put < b.put) := by simp [ltI]
theorem ltI_no {a b : It} : ltI a b = false ↔ b.due < a.due ∨ (a.due = b.due ∧ b.put ≤ a.put) := by
  rw [← Bool.not_eq_true, ltI_iff]; omega
/-- Not behind. -/
def leI (a b : It) : Prop := ltI b a = false
theorem leI_iff {a b : It} : leI a b ↔ a.due < b.due ∨ (a.due = b.due ∧ a.put ≤ b.put) := by
  unfold leI; rw [ltI_no]; omega
theorem leI_refl (a : It) : leI a a := by rw [leI_iff]; omega
theorem leI_trans {a b c : It} (h : leI a b) (k : leI b c) : leI a c := by rw [leI_iff] at *; omega
theorem leI_of_lt {a b : It} (h : ltI a b = true) : leI a b := by rw [ltI_iff] at h; rw [leI_iff]; omega
theorem leI_total (a b : It) : leI a b ∨ leI b a := by rw [leI_iff, leI_iff]; omega

def itZ : It := ⟨0, 0, 0⟩
/-- Each is not ahead of the one above it. -/
def HeapI (l : List It) : Prop := ∀ i, 0 < i → i < l.length → leI (l.getD ((i - 1) / 2) itZ) (l.getD i itZ)
theorem heap_root {l : List It} (h : HeapI l) : ∀ i, i < l.length → leI (l.getD 0 itZ) (l.getD i itZ) := by
  intro i
  induction i using Nat.strongRecOn with
  | _ i ih =>
    intro hi
    by_cases h0 : i = 0
    · subst h0; exact leI_refl _
    · exact leI_trans (ih ((i - 1) / 2) (by omega) (by omega)) (h i (by omega) hi)
theorem heap_nil : HeapI [] := fun i _ h => by simp at h

/-- Two change places. -/
def swapI {α : Type} (z : α) (l : List α) (i j : Nat) : List α := (l.set i (l.getD j z)).set j (l.getD i z)
theorem swapI_length {α : Type} (z : α) (l : List α) (i j : Nat) : (swapI z l i j).length = l.length := by simp [swapI]
theorem swapI_get {α : Type} (z : α) (l : List α) (i j k : Nat) (hi : i < l.length) (hj : j < l.length) : (swapI z l i j).getD k z = if k = j then l.getD i z else if k = i then l.getD j z else l.getD k z := by
  unfold swapI
  simp only [List.getD_eq_getElem?_getD, List.getElem?_set, List.length_set]
  by_cases h1 : k = j
  · subst h1
    rw [if_pos rfl, if_pos rfl, if_pos hj]
    simp
  · rw [if_neg (by omega), if_neg h1]
    by_cases h2 : k = i
    · subst h2
      rw [if_pos rfl, if_pos rfl, if_pos hi]
      simp
    · rw [if_neg (by omega), if_neg h2]
theorem swapI_perm {α : Type} (z : α) (l : List α) (i j : Nat) (hi : i < l.length) (hj : j < l.length) : (swapI z l i j).Perm l := by
  unfold swapI
  have e1 : l.getD j z = l[j] := by simp [hj]
  have e2 : l.getD i z = l[i] := by simp [hi]
  rw [e1, e2]
  exact List.set_set_perm hi hj

/-- The first n are a heap. -/
def HeapN (l : List It) (n : Nat) : Prop := ∀ i, 0 < i → i < n → leI (l.getD ((i - 1) / 2) itZ) (l.getD i itZ)
theorem heapN_all {l : List It} (h : HeapN l l.length) : HeapI l := h
/-- The first n are a heap but for the one at j, which may stand too low. -/
def UpN (l : List It) (n j : Nat) : Prop :=
  (∀ i, 0 < i → i < n → i ≠ j → leI (l.getD ((i - 1) / 2) itZ) (l.getD i itZ)) ∧
  ∀ c, 0 < c → c < n → (c - 1) / 2 = j → 0 < j → leI (l.getD ((j - 1) / 2) itZ) (l.getD c itZ)
theorem up_end {l : List It} {n j : Nat} (h : UpN l n j) (hle : j = 0 ∨ ltI (l.getD j itZ) (l.getD ((j - 1) / 2) itZ) = false) : HeapN l n := by
  intro i h0 hi
  by_cases e : i = j
  · subst e
    rcases hle with hh | hh
    · omega
    · exact hh
  · exact h.1 i h0 hi e
theorem up_step {l : List It} {n j : Nat} (h : UpN l n j) (hn : n ≤ l.length) (hj : j < n) (h0 : 0 < j) (hlt : ltI (l.getD j itZ) (l.getD ((j - 1) / 2) itZ) = true) : UpN (swapI itZ l ((j - 1) / 2) j) n ((j - 1) / 2) := by
  have hp : (j - 1) / 2 < l.length := by omega
  have hjl : j < l.length := by omega
  have hle := leI_of_lt hlt
  obtain ⟨p, hpd⟩ : ∃ p, p = (j - 1) / 2 := ⟨_, rfl⟩
  rw [← hpd] at hp hle hlt ⊢
  have hpj : p ≠ j := by omega
  have hpn : p < n := by omega
  constructor
  · intro i hi0 hi hne
    rw [swapI_get itZ l p j _ hp hjl, swapI_get itZ l p j _ hp hjl]
    by_cases e : i = j
    · subst e
      rw [if_pos rfl, ← hpd, if_neg hpj, if_pos rfl]
      exact hle
    · rw [if_neg e, if_neg hne]
      by_cases e2 : (i - 1) / 2 = j
      · rw [if_pos e2]
        have := h.2 i hi0 hi e2 h0
        rw [← hpd] at this
        exact this
      · rw [if_neg e2]
        by_cases e3 : (i - 1) / 2 = p
        · rw [if_pos e3]
          have := h.1 i hi0 hi e
          rw [e3] at this
          exact leI_trans hle this
        · rw [if_neg e3]
          exact h.1 i hi0 hi e
  · intro c hc0 hc hcp hp0
    rw [swapI_get itZ l p j _ hp hjl, swapI_get itZ l p j _ hp hjl]
    have hpp : (p - 1) / 2 ≠ j := by omega
    have hpp2 : (p - 1) / 2 ≠ p := by omega
    rw [if_neg hpp, if_neg hpp2]
    have hup : leI (l.getD ((p - 1) / 2) itZ) (l.getD p itZ) := h.1 p hp0 hpn hpj
    by_cases e : c = j
    · rw [if_pos e]; exact hup
    · rw [if_neg e]
      by_cases e2 : c = p
      · omega
      · rw [if_neg e2]
        have := h.1 c hc0 hc e
        rw [hcp] at this
        exact leI_trans hup this

/-- A heap of the first n but for the one at i, which may stand too high. -/
def DownI (l : List It) (n i : Nat) : Prop :=
  (∀ c, 0 < c → c < n → (c - 1) / 2 ≠ i → leI (l.getD ((c - 1) / 2) itZ) (l.getD c itZ)) ∧
  ∀ c, 0 < c → c < n → (c - 1) / 2 = i → 0 < i → leI (l.getD ((i - 1) / 2) itZ) (l.getD c itZ)
theorem down_end {l : List It} {n i : Nat} (h : DownI l n i) (hch : ∀ c, 0 < c → c < n → (c - 1) / 2 = i → leI (l.getD i itZ) (l.getD c itZ)) : HeapN l n := by
  intro c h0 hc
  by_cases e : (c - 1) / 2 = i
  · rw [e]; exact hch c h0 hc e
  · exact h.1 c h0 hc e
theorem down_step {l : List It} {n i j : Nat} (h : DownI l n i) (hn : n ≤ l.length) (hj : j < n) (hj0 : 0 < j) (hp : (j - 1) / 2 = i) (hlt : ltI (l.getD j itZ) (l.getD i itZ) = true) (hmin : ∀ c, 0 < c → c < n → (c - 1) / 2 = i → leI (l.getD j itZ) (l.getD c itZ)) : DownI (swapI itZ l i j) n j := by
  have hi : i < l.length := by omega
  have hjl : j < l.length := by omega
  have hle := leI_of_lt hlt
  have hij : i ≠ j := by omega
  constructor
  · intro c hc0 hc hne
    rw [swapI_get itZ l i j _ hi hjl, swapI_get itZ l i j _ hi hjl]
    rw [if_neg hne]
    by_cases e : (c - 1) / 2 = i
    · rw [if_pos e]
      by_cases e2 : c = j
      · rw [if_pos e2]; exact hle
      · rw [if_neg e2, if_neg (by omega)]
        exact hmin c hc0 hc e
    · rw [if_neg e]
      by_cases e2 : c = j
      · omega
      · rw [if_neg e2]
        by_cases e3 : c = i
        · rw [if_pos e3]
          subst e3
          exact h.2 j hj0 hj hp hc0
        · rw [if_neg e3]
          exact h.1 c hc0 hc e
  · intro c hc0 hc hcp _
    rw [swapI_get itZ l i j _ hi hjl, swapI_get itZ l i j _ hi hjl]
    rw [hp, if_neg hij, if_pos rfl, if_neg (by omega), if_neg (by omega)]
    have := h.1 c hc0 hc (by omega)
    rw [hcp] at this
    exact this

/-- As 'DownI', but the one at i may stand too low, too. -/
def DownW (l : List It) (n i : Nat) : Prop :=
  (∀ c, 0 < c → c < n → (c - 1) / 2 ≠ i → c ≠ i → leI (l.getD ((c - 1) / 2) itZ) (l.getD c itZ)) ∧
  ∀ c, 0 < c → c < n → (c - 1) / 2 = i → 0 < i → leI (l.getD ((i - 1) / 2) itZ) (l.getD c itZ)
theorem downW_stay {l : List It} {n i : Nat} (h : DownW l n i) (hch : ∀ c, 0 < c → c < n → (c - 1) / 2 = i → leI (l.getD i itZ) (l.getD c itZ)) : UpN l n i :=
  ⟨fun c h0 hc hne => by
    by_cases e : (c - 1) / 2 = i
    · rw [e]; exact hch c h0 hc e
    · exact h.1 c h0 hc e hne, h.2⟩
theorem downW_step {l : List It} {n i j : Nat} (h : DownW l n i) (hn : n ≤ l.length) (hj : j < n) (hj0 : 0 < j) (hp : (j - 1) / 2 = i) (hlt : ltI (l.getD j itZ) (l.getD i itZ) = true) (hmin : ∀ c, 0 < c → c < n → (c - 1) / 2 = i → leI (l.getD j itZ) (l.getD c itZ)) : DownI (swapI itZ l i j) n j := by
  have hi : i < l.length := by omega
  have hjl : j < l.length := by omega
  have hle := leI_of_lt hlt
  have hij : i ≠ j := by omega
  constructor
  · intro c hc0 hc hne
    rw [swapI_get itZ l i j _ hi hjl, swapI_get itZ l i j _ hi hjl]
    rw [if_neg hne]
    by_cases e : (c - 1) / 2 = i
    · rw [if_pos e]
      by_cases e2 : c = j
      · rw [if_pos e2]; exact hle
      · rw [if_neg e2, if_neg (by omega)]
        exact hmin c hc0 hc e
    · rw [if_neg e]
      by_cases e2 : c = j
      · omega
      · rw [if_neg e2]
        by_cases e3 : c = i
        · rw [if_pos e3]
          subst e3
          exact h.2 j hj0 hj hp hc0
        · rw [if_neg e3]
          exact h.1 c hc0 hc e e3
  · intro c hc0 hc hcp _
    rw [swapI_get itZ l i j _ hi hjl, swapI_get itZ l i j _ hi hjl]
    rw [hp, if_neg hij, if_pos rfl, if_neg (by omega), if_neg (by omega)]
    have := h.1 c hc0 hc (by omega) (by omega)
    rw [hcp] at this
    exact this
/-- A thing at i is another one now. -/
theorem heap_changed {l m : List It} {n i : Nat} (h : HeapN l n) (hne : ∀ k, k ≠ i → m.getD k itZ = l.getD k itZ) (hin : i < n) : DownW m n i := by
  constructor
  · intro c h0 hc h1 h2
    rw [hne _ h1, hne _ h2]
    exact h c h0 hc
  · intro c h0 hc h1 h2
    rw [hne _ (by omega), hne c (by omega)]
    have a := h c h0 hc
    rw [h1] at a
    exact leI_trans (h i h2 hin) a
theorem swapI_map {α β : Type} (f : α → β) (z : α) (l : List α) (i j : Nat) (hi : i < l.length) (hj : j < l.length) : (swapI z l i j).map f = swapI (f z) (l.map f) i j := by
  unfold swapI
  rw [List.map_set, List.map_set]
  simp [hi, hj]
/-- Nothing changed from place n on. -/
def KeepN {α : Type} (z : α) (l m : List α) (n : Nat) : Prop := ∀ k, n ≤ k → m.getD k z = l.getD k z
theorem KeepN.refl {α : Type} (z : α) (l : List α) (n : Nat) : KeepN z l l n := fun _ _ => rfl
theorem KeepN.swap {α : Type} {z : α} {l m : List α} {n i j : Nat} (h : KeepN z l m n) (hi : i < n) (hj : j < n) (hil : i < m.length) (hjl : j < m.length) : KeepN z l (swapI z m i j) n := fun k hk => by
  rw [swapI_get z m i j k hil hjl, if_neg (by omega), if_neg (by omega)]
  exact h k hk

end Go.Proofs.Ytlkhaookdmgbnaa
