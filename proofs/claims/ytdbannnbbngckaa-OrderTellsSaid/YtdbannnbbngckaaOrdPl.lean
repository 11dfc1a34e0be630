/- Rows put in order by a key, as plain lists: by insertion, and by always taking the first of the least; both are the one row that rises and keeps what is alike in its row. -/
import Derived.WalkKit
namespace Go.Proofs.Ytdbannnbbngckaa

/-- The row rises by the key. -/
def RisesK (key : Nat → Nat) (l : List Nat) : Prop := l.Pairwise fun x y => key x ≤ key y
/-- Of each key the same ones, in the same row. -/
def AlikeK (key : Nat → Nat) (l m : List Nat) : Prop := ∀ κ, l.filter (fun x => key x == κ) = m.filter (fun x => key x == κ)

theorem AlikeK.refl (key : Nat → Nat) (l : List Nat) : AlikeK key l l := fun _ => rfl
theorem AlikeK.symm {key : Nat → Nat} {l m : List Nat} (h : AlikeK key l m) : AlikeK key m l := fun κ => (h κ).symm
theorem AlikeK.trans {key : Nat → Nat} {l m n : List Nat} (h : AlikeK key l m) (k : AlikeK key m n) : AlikeK key l n := fun κ => (h κ).trans (k κ)
theorem AlikeK.mem {key : Nat → Nat} {l m : List Nat} (h : AlikeK key l m) {x : Nat} (hx : x ∈ l) : x ∈ m := by
  have : x ∈ l.filter (fun y => key y == key x) := List.mem_filter.2 ⟨hx, by simp⟩
  rw [h (key x)] at this
  exact (List.mem_filter.1 this).1
theorem AlikeK.perm {key : Nat → Nat} {l m : List Nat} (h : AlikeK key l m) : l.Perm m := by
  rw [List.perm_iff_count]
  intro x
  have key2 : ∀ l : List Nat, l.count x = (l.filter (fun y => key y == key x)).count x := by
    intro l
    rw [List.count_filter (by simp)]
  rw [key2 l, key2 m, h]

theorem rises_alike (key : Nat → Nat) : ∀ (l m : List Nat), RisesK key l → RisesK key m → AlikeK key l m → l = m
  | [], m, _, _, h => by
    cases m with
    | nil => rfl
    | cons y s => exact absurd (h.symm.mem (List.mem_cons_self ..)) (by simp)
  | x :: t, m, hl, hm, h => by
    cases m with
    | nil => exact absurd (h.mem (List.mem_cons_self ..)) (by simp)
    | cons y s =>
      obtain ⟨hx, ht⟩ := List.pairwise_cons.1 hl
      obtain ⟨hy, hs⟩ := List.pairwise_cons.1 hm
      have h1 : key x ≤ key y := by
        rcases List.mem_cons.1 (h.symm.mem (List.mem_cons_self ..)) with e | e
        · rw [e]; exact Nat.le_refl _
        · exact hx y e
      have h2 : key y ≤ key x := by
        rcases List.mem_cons.1 (h.mem (List.mem_cons_self ..)) with e | e
        · rw [e]; exact Nat.le_refl _
        · exact hy x e
      have e : key x = key y := by omega
      have hk := h (key x)
      rw [List.filter_cons, List.filter_cons, if_pos (by simp), if_pos (by simp [e])] at hk
      injection hk with hxy hts
      subst hxy
      congr 1
      refine rises_alike key t s ht hs fun κ => ?_
      have := h κ
      rw [List.filter_cons, List.filter_cons] at this
      by_cases hκ : (key x == κ) = true
      · rw [if_pos hκ, if_pos hκ] at this; injection this
      · rw [if_neg hκ, if_neg hκ] at this; exact this

/-- Two neighbours change places. -/
def swapA (l : List Nat) (j : Nat) : List Nat := (l.set (j + 1) (l.getD j 0)).set j (l.getD (j + 1) 0)
theorem swapA_length (l : List Nat) (j : Nat) : (swapA l j).length = l.length := by simp [swapA]
theorem swapA_get (l : List Nat) (j k : Nat) (h : j + 1 < l.length) : (swapA l j).getD k 0 = if k = j then l.getD (j + 1) 0 else if k = j + 1 then l.getD j 0 else l.getD k 0 := by
  unfold swapA
  simp only [List.getD_eq_getElem?_getD, List.getElem?_set, List.length_set]
  by_cases h1 : k = j
  · subst h1
    rw [if_pos rfl, if_pos rfl, if_pos (by omega)]
    simp
  · rw [if_neg (by omega), if_neg h1]
    by_cases h2 : k = j + 1
    · subst h2
      rw [if_pos rfl, if_pos rfl, if_pos h]
      simp
    · rw [if_neg (by omega), if_neg h2]
theorem split2 (l : List Nat) (j : Nat) (h : j + 1 < l.length) : l = l.take j ++ l.getD j 0 :: l.getD (j + 1) 0 :: l.drop (j + 2) := by
  have h0 : j < l.length := by omega
  conv => lhs; rw [← List.take_append_drop j l]
  congr 1
  rw [List.drop_eq_getElem_cons h0, List.drop_eq_getElem_cons h]
  simp [h, h0]
theorem swapA_split (l : List Nat) (j : Nat) (h : j + 1 < l.length) : swapA l j = l.take j ++ l.getD (j + 1) 0 :: l.getD j 0 :: l.drop (j + 2) := by
  apply List.ext_getElem?
  intro k
  have e : ∀ (l : List Nat) (k : Nat), k < l.length → l[k]? = some (l.getD k 0) := fun l k hk => by simp [hk]
  by_cases hk : k < l.length
  · rw [e _ k (by rw [swapA_length]; exact hk), swapA_get l j k h]
    have hlt : (l.take j).length = j := by simp; omega
    by_cases h1 : k < j
    · rw [if_neg (by omega), if_neg (by omega), List.getElem?_append_left (by omega), List.getElem?_take_of_lt h1, e l k hk]
    · rw [List.getElem?_append_right (by omega), hlt]
      by_cases h2 : k = j
      · subst h2; simp
      · by_cases h3 : k = j + 1
        · subst h3
          rw [if_neg (by omega), if_pos rfl, show j + 1 - j = 1 by omega]
          simp
        · rw [if_neg h2, if_neg h3]
          obtain ⟨d, hd⟩ : ∃ d, k = j + 2 + d := ⟨k - (j + 2), by omega⟩
          subst hd
          rw [show j + 2 + d - j = d + 2 by omega, ← e l _ hk]
          simp
  · rw [List.getElem?_eq_none (by rw [swapA_length]; omega), List.getElem?_eq_none (by simp; omega)]
theorem swapA_alike (key : Nat → Nat) (l : List Nat) (j : Nat) (h : j + 1 < l.length) (hne : key (l.getD (j + 1) 0) ≠ key (l.getD j 0)) : AlikeK key (swapA l j) l := by
  intro κ
  conv => rhs; rw [split2 l j h]
  rw [swapA_split l j h, List.filter_append, List.filter_append]
  congr 1
  generalize l.getD (j + 1) 0 = x at hne ⊢
  generalize l.getD j 0 = y at hne ⊢
  simp only [List.filter_cons, beq_iff_eq]
  by_cases h1 : key x = κ
  · rw [if_pos h1, if_neg (by omega), if_neg (by omega), if_pos h1]
  · rw [if_neg h1, if_neg h1]

/-- What stands at place j sinks to its place among those ahead of it. -/
def sinkK (key : Nat → Nat) : Nat → List Nat → List Nat
  | 0, l => l
  | j + 1, l => if key (l.getD (j + 1) 0) < key (l.getD j 0) then sinkK key j (swapA l j) else l
theorem sinkK_length (key : Nat → Nat) : ∀ j l, (sinkK key j l).length = l.length
  | 0, _ => rfl
  | j + 1, l => by
    rw [sinkK]
    split
    · rw [sinkK_length key j, swapA_length]
    · rfl
theorem sinkK_alike (key : Nat → Nat) : ∀ j l, j < l.length → AlikeK key (sinkK key j l) l
  | 0, l, _ => AlikeK.refl _ _
  | j + 1, l, h => by
    rw [sinkK]
    split
    · exact (sinkK_alike key j _ (by rw [swapA_length]; omega)).trans (swapA_alike key l j h (by omega))
    · exact AlikeK.refl _ _
/-- The first n rise. -/
def FirstK (key : Nat → Nat) (n : Nat) (l : List Nat) : Prop := ∀ a b, a < b → b < n → key (l.getD a 0) ≤ key (l.getD b 0)
theorem sinkK_first (key : Nat → Nat) (i : Nat) : ∀ j l, i < l.length → j ≤ i → (∀ a b, a < b → b ≤ i → b ≠ j → key (l.getD a 0) ≤ key (l.getD b 0)) → FirstK key (i + 1) (sinkK key j l)
  | 0, l, _, _, h => fun a b hab hb => h a b hab (by omega) (by omega)
  | j + 1, l, hi, hj, h => by
    rw [sinkK]
    split
    · rename_i hlt
      refine sinkK_first key i j _ (by rw [swapA_length]; exact hi) (by omega) fun a b hab hb hne => ?_
      rw [swapA_get l j a (by omega), swapA_get l j b (by omega)]
      rw [if_neg hne]
      by_cases hb1 : b = j + 1
      · rw [if_pos hb1]
        by_cases ha : a = j
        · rw [if_pos ha]; omega
        · rw [if_neg ha, if_neg (by omega)]; exact h a j (by omega) (by omega) (by omega)
      · rw [if_neg hb1]
        by_cases ha : a = j
        · rw [if_pos ha]; exact h (j + 1) b (by omega) hb hb1
        · rw [if_neg ha]
          by_cases ha1 : a = j + 1
          · rw [if_pos ha1]; exact h j b (by omega) hb hb1
          · rw [if_neg ha1]; exact h a b hab hb hb1
    · rename_i hlt
      intro a b hab hb
      by_cases hb1 : b = j + 1
      · subst hb1
        by_cases ha : a = j
        · subst ha; omega
        · have := h a j (by omega) (by omega) (by omega)
          omega
      · exact h a b hab (by omega) hb1

/-- Behind k rounds of the insertion. -/
def isortK (key : Nat → Nat) (l : List Nat) : Nat → List Nat
  | 0 => l
  | k + 1 => sinkK key (k + 1) (isortK key l k)
theorem isortK_length (key : Nat → Nat) (l : List Nat) : ∀ k, (isortK key l k).length = l.length
  | 0 => rfl
  | k + 1 => by rw [isortK, sinkK_length, isortK_length key l k]
theorem isortK_alike (key : Nat → Nat) (l : List Nat) : ∀ k, k < l.length → AlikeK key (isortK key l k) l
  | 0, _ => AlikeK.refl _ _
  | k + 1, h => (sinkK_alike key (k + 1) _ (by rw [isortK_length]; exact h)).trans (isortK_alike key l k (by omega))
theorem isortK_first (key : Nat → Nat) (l : List Nat) : ∀ k, k < l.length → FirstK key (k + 1) (isortK key l k)
  | 0, _ => fun a b _ _ => by omega
  | k + 1, h => sinkK_first key (k + 1) (k + 1) _ (by rw [isortK_length]; exact h) (Nat.le_refl _) fun a b hab hb hne => isortK_first key l k (by omega) a b hab (by omega)

/-- The row in order. -/
def ordK (key : Nat → Nat) (l : List Nat) : List Nat := isortK key l (l.length - 1)
theorem ordK_length (key : Nat → Nat) (l : List Nat) : (ordK key l).length = l.length := isortK_length _ _ _
theorem ordK_alike (key : Nat → Nat) (l : List Nat) : AlikeK key (ordK key l) l := by
  unfold ordK
  cases l with
  | nil => exact AlikeK.refl _ _
  | cons x t => exact isortK_alike key _ _ (by simp)
theorem rises_of_first {key : Nat → Nat} {l : List Nat} (h : FirstK key l.length l) : RisesK key l := by
  refine List.pairwise_iff_getElem.2 fun a b ha hb hab => ?_
  have := h a b hab hb
  simpa [ha, hb] using this
theorem ordK_rises (key : Nat → Nat) (l : List Nat) : RisesK key (ordK key l) := by
  refine rises_of_first ?_
  rw [ordK_length]
  cases l with
  | nil => intro a b _ hb; simp at hb
  | cons x t =>
    have := isortK_first key (x :: t) t.length (by simp)
    exact this
theorem ordK_perm (key : Nat → Nat) (l : List Nat) : (ordK key l).Perm l := (ordK_alike key l).perm

/-- The place of the first of the least among the first n. -/
def minK (key : Nat → Nat) (l : List Nat) : Nat → Nat
  | 0 => 0
  | n + 1 => if key (l.getD (n + 1) 0) < key (l.getD (minK key l n) 0) then n + 1 else minK key l n
theorem minK_le (key : Nat → Nat) (l : List Nat) : ∀ n, minK key l n ≤ n
  | 0 => Nat.le_refl _
  | n + 1 => by
    have := minK_le key l n
    rw [minK]; split <;> omega
theorem minK_spec (key : Nat → Nat) (l : List Nat) : ∀ n, (∀ i, i < minK key l n → key (l.getD (minK key l n) 0) < key (l.getD i 0)) ∧ ∀ i, i ≤ n → key (l.getD (minK key l n) 0) ≤ key (l.getD i 0)
  | 0 => ⟨fun i hi => by rw [minK] at hi; omega, fun i hi => by rw [Nat.le_zero.1 hi]; exact Nat.le_refl _⟩
  | n + 1 => by
    obtain ⟨h1, h2⟩ := minK_spec key l n
    rw [minK]
    split
    · rename_i hlt
      refine ⟨fun i hi => Nat.lt_of_lt_of_le hlt (h2 i (by omega)), fun i hi => ?_⟩
      by_cases e : i = n + 1
      · rw [e]; exact Nat.le_refl _
      · exact Nat.le_trans (Nat.le_of_lt hlt) (h2 i (by omega))
    · rename_i hlt
      refine ⟨h1, fun i hi => ?_⟩
      by_cases e : i = n + 1
      · rw [e]; omega
      · exact h2 i (by omega)

/-- Always the first of the least. -/
def selK (key : Nat → Nat) : Nat → List Nat → List Nat
  | 0, _ => []
  | n + 1, l => l.getD (minK key l n) 0 :: selK key n (l.eraseIdx (minK key l n))
theorem erase_alike (key : Nat → Nat) (l : List Nat) (k : Nat) (h : k < l.length) (hlt : ∀ i, i < k → key (l.getD k 0) < key (l.getD i 0)) : AlikeK key (l.getD k 0 :: l.eraseIdx k) l := by
  intro κ
  have e : l = l.take k ++ l.getD k 0 :: l.drop (k + 1) := by
    conv => lhs; rw [← List.take_append_drop k l]
    congr 1
    rw [List.drop_eq_getElem_cons h]
    simp [h]
  rw [List.eraseIdx_eq_take_drop_succ]
  conv => rhs; rw [e]
  rw [List.filter_append, List.filter_cons, List.filter_cons, List.filter_append]
  by_cases hk : (key (l.getD k 0) == κ) = true
  · rw [if_pos hk, if_pos hk]
    have : (l.take k).filter (fun x => key x == κ) = [] := by
      refine List.filter_eq_nil_iff.2 fun x hx => ?_
      obtain ⟨i, hi, rfl⟩ := List.mem_iff_getElem.1 hx
      have hi2 : i < k ∧ i < l.length := by simp at hi; omega
      have := hlt i hi2.1
      simp only [beq_iff_eq] at hk ⊢
      have e2 : (l.take k)[i] = l.getD i 0 := by simp [hi2.2]
      rw [e2]
      omega
    rw [this]
    rfl
  · rw [if_neg hk, if_neg hk]
theorem selK_spec (key : Nat → Nat) : ∀ n l, l.length = n → RisesK key (selK key n l) ∧ AlikeK key (selK key n l) l
  | 0, l, h => by
    rw [List.length_eq_zero_iff.1 h]
    exact ⟨List.Pairwise.nil, AlikeK.refl _ _⟩
  | n + 1, l, h => by
    have hle := minK_le key l n
    obtain ⟨h1, h2⟩ := minK_spec key l n
    have hk : minK key l n < l.length := by omega
    obtain ⟨r1, r2⟩ := selK_spec key n (l.eraseIdx (minK key l n)) (by rw [List.length_eraseIdx_of_lt hk]; omega)
    rw [selK]
    have ha := erase_alike key l (minK key l n) hk h1
    constructor
    · refine List.pairwise_cons.2 ⟨fun y hy => ?_, r1⟩
      have hy2 : y ∈ l := by
        have := r2.mem hy
        exact List.mem_of_mem_eraseIdx this
      obtain ⟨i, hi, rfl⟩ := List.mem_iff_getElem.1 hy2
      have := h2 i (by omega)
      simpa [hi] using this
    · refine AlikeK.trans (fun κ => ?_) ha
      rw [List.filter_cons, List.filter_cons, r2 κ]
theorem selK_ord (key : Nat → Nat) (l : List Nat) : selK key l.length l = ordK key l := by
  obtain ⟨h1, h2⟩ := selK_spec key l.length l rfl
  exact rises_alike key _ _ h1 (ordK_rises key l) (h2.trans (ordK_alike key l).symm)

/-- Where no two keys are the same, the row's order is its own. -/
theorem ordK_apart (key : Nat → Nat) (l m : List Nat) (hp : l.Perm m) (hd : ∀ x ∈ l, ∀ y ∈ l, key x = key y → x = y) (hn : l.Nodup) : ordK key l = ordK key m := by
  refine rises_alike key _ _ (ordK_rises key l) (ordK_rises key m) ((ordK_alike key l).trans (AlikeK.trans (fun κ => ?_) (ordK_alike key m).symm))
  have hpf : (l.filter fun x => key x == κ).Perm (m.filter fun x => key x == κ) := hp.filter _
  have hlen : (l.filter fun x => key x == κ).length ≤ 1 := by
    have hnf : (l.filter fun x => key x == κ).Nodup := hn.filter _
    rcases hc : l.filter (fun x => key x == κ) with _ | ⟨x, _ | ⟨y, t⟩⟩
    · simp
    · simp
    · exfalso
      have hx : x ∈ l.filter (fun x => key x == κ) := by rw [hc]; simp
      have hy : y ∈ l.filter (fun x => key x == κ) := by rw [hc]; simp
      rw [List.mem_filter] at hx hy
      have := hd x hx.1 y hy.1 (by have a := hx.2; have b := hy.2; simp at a b; omega)
      rw [hc] at hnf
      simp [this] at hnf
  rcases hc : l.filter (fun x => key x == κ) with _ | ⟨x, _ | ⟨y, t⟩⟩
  · rw [hc] at hpf; rw [List.nil_perm.1 hpf]
  · rw [hc] at hpf; rw [List.singleton_perm.1 hpf]
  · rw [hc] at hlen; simp at hlen

/-- What is alike stands as it stood. -/
theorem alike_pairs {key : Nat → Nat} {l m : List Nat} (h : AlikeK key l m) {u v : Nat} (hk : key u = key v) (hs : [u, v].Sublist m) : [u, v].Sublist l := by
  have h1 : ([u, v].filter (fun x => key x == key u)).Sublist (m.filter (fun x => key x == key u)) := hs.filter _
  rw [← h (key u)] at h1
  have e : [u, v].filter (fun x => key x == key u) = [u, v] := by simp [hk]
  rw [e] at h1
  exact h1.trans List.filter_sublist

end Go.Proofs.Ytdbannnbbngckaa
