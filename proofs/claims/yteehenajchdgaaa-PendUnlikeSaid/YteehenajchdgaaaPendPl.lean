/- What is out at whom, as plain data: a row of those that are out, in the row in which they were drawn; the next free one; what is freed. -/
import Derived.WalkKit
namespace Go.Proofs.Yteehenajchdgaaa

/-- One that is out: at whom, for which slot, its number. -/
structure Ou where
  u : Int
  slot : Int
  id : Nat

theorem nodup_le' (n : Nat) : ∀ (l : List Nat), l.Nodup → (∀ x ∈ l, x < n) → l.length ≤ n := by
  induction n with
  | zero =>
    intro l _ hlt
    cases l with
    | nil => simp
    | cons x l => exact absurd (hlt x (by simp)) (by simp)
  | succ n ih =>
    intro l hnd hlt
    have h1 := ih (l.erase n) (hnd.erase n) (fun x hx => by
      have h2 := (hnd.mem_erase_iff).1 hx
      have := hlt x h2.2
      omega)
    have h2 : l.length - 1 ≤ (l.erase n).length := by
      rw [List.length_erase]; split <;> omega
    omega

/-- Those at an upstream: number and slot. -/
def outsP (L : List Ou) (u : Int) : List (Nat × Int) := (L.filter fun o => decide (o.u = u)).map fun o => (o.id, o.slot)
def hasP (M : List (Nat × Int)) (id : Nat) : Bool := M.any fun p => decide (p.1 = id)
def atP (M : List (Nat × Int)) (id : Nat) : Int := ((M.find? fun p => decide (p.1 = id)).map Prod.snd).getD 0
def keysP (M : List (Nat × Int)) : List Nat := M.map Prod.fst
def lenO (L : List Ou) (u : Int) : Nat := (outsP L u).length
def hasO (L : List Ou) (u : Int) (id : Nat) : Bool := hasP (outsP L u) id
def atO (L : List Ou) (u : Int) (id : Nat) : Int := atP (outsP L u) id

structure OkO (n : Nat) (L : List Ou) : Prop where
  r : ∀ o ∈ L, 0 ≤ o.u ∧ o.u < n
  s : ∀ o ∈ L, 0 ≤ o.slot ∧ o.slot < 32
  i : ∀ o ∈ L, o.id < 65536
  d : L.Pairwise fun a b => ¬(a.u = b.u ∧ a.id = b.id)
theorem okO_nil (n : Nat) : OkO n [] := ⟨by simp, by simp, by simp, by simp⟩
theorem OkO.sub {n : Nat} {L M : List Ou} (h : OkO n L) (hs : M.Sublist L) : OkO n M :=
  ⟨fun o ho => h.r o (hs.subset ho), fun o ho => h.s o (hs.subset ho), fun o ho => h.i o (hs.subset ho), h.d.sublist hs⟩

theorem mem_outs {L : List Ou} {u : Int} {p : Nat × Int} : p ∈ outsP L u ↔ ∃ o ∈ L, o.u = u ∧ (o.id, o.slot) = p := by
  simp [outsP, List.mem_filter, and_assoc]
theorem OkO.keys {n : Nat} {L : List Ou} (h : OkO n L) (u : Int) : (keysP (outsP L u)).Nodup := by
  unfold keysP outsP
  rw [List.map_map, List.Nodup, List.pairwise_map]
  have h1 : (L.filter fun o => decide (o.u = u)).Pairwise fun a b => ¬(a.u = b.u ∧ a.id = b.id) := h.d.sublist List.filter_sublist
  refine h1.imp_of_mem ?_
  intro a b ha hb hab e
  have h2 := (List.mem_filter.1 ha).2
  have h3 := (List.mem_filter.1 hb).2
  simp at h2 h3
  exact hab ⟨by rw [h2, h3], e⟩
theorem OkO.keys_lt {n : Nat} {L : List Ou} (h : OkO n L) (u : Int) : ∀ x ∈ keysP (outsP L u), x < 65536 := by
  intro x hx
  obtain ⟨p, hp, rfl⟩ := List.mem_map.1 hx
  obtain ⟨o, ho, _, rfl⟩ := mem_outs.1 hp
  exact h.i o ho
theorem OkO.len_le {n : Nat} {L : List Ou} (h : OkO n L) (u : Int) : lenO L u ≤ 65536 := by
  have := nodup_le' 65536 _ (h.keys u) (h.keys_lt u)
  simpa [keysP, lenO] using this
theorem lenO_le (L : List Ou) (u : Int) : lenO L u ≤ L.length := by
  unfold lenO outsP
  rw [List.length_map]
  exact List.length_filter_le _ _
theorem outs_out {n : Nat} {L : List Ou} (h : OkO n L) {u : Int} (hu : u < 0 ∨ (n : Int) ≤ u) : outsP L u = [] := by
  unfold outsP
  rw [List.map_eq_nil_iff, List.filter_eq_nil_iff]
  intro o ho
  have := h.r o ho
  simp; omega
theorem hasP_mem {M : List (Nat × Int)} {id : Nat} : hasP M id = true ↔ id ∈ keysP M := by
  unfold hasP keysP
  rw [List.any_eq_true, List.mem_map]
  constructor
  · rintro ⟨p, hp, e⟩; exact ⟨p, hp, by simpa using e⟩
  · rintro ⟨p, hp, e⟩; exact ⟨p, hp, by simpa using e⟩
theorem hasO_iff {L : List Ou} {u : Int} {id : Nat} : hasO L u id = true ↔ ∃ o ∈ L, o.u = u ∧ o.id = id := by
  unfold hasO
  rw [hasP_mem]
  unfold keysP
  rw [List.mem_map]
  constructor
  · rintro ⟨p, hp, rfl⟩
    obtain ⟨o, ho, h1, rfl⟩ := mem_outs.1 hp
    exact ⟨o, ho, h1, rfl⟩
  · rintro ⟨o, ho, h1, h2⟩
    exact ⟨(o.id, o.slot), mem_outs.2 ⟨o, ho, h1, rfl⟩, h2⟩
theorem atP_of {M : List (Nat × Int)} (hn : (keysP M).Nodup) {p : Nat × Int} (hp : p ∈ M) : atP M p.1 = p.2 := by
  unfold atP
  induction M with
  | nil => simp at hp
  | cons q M ih =>
    rw [List.find?_cons]
    unfold keysP at hn
    rw [List.map_cons, List.nodup_cons] at hn
    rcases List.mem_cons.1 hp with e | e
    · subst e; simp
    · have : decide (q.1 = p.1) = false := by
        simp
        intro e2
        exact hn.1 (by rw [e2]; exact List.mem_map.2 ⟨p, e, rfl⟩)
      rw [this]
      exact ih hn.2 e
theorem atP_not {M : List (Nat × Int)} {id : Nat} (h : hasP M id = false) : atP M id = 0 := by
  unfold atP
  have : M.find? (fun p => decide (p.1 = id)) = none := by
    rw [List.find?_eq_none]
    intro p hp
    unfold hasP at h
    rw [List.any_eq_false] at h
    exact h p hp
  rw [this]; rfl
theorem OkO.at {n : Nat} {L : List Ou} (h : OkO n L) {o : Ou} (ho : o ∈ L) : atO L o.u o.id = o.slot :=
  atP_of (h.keys o.u) (p := (o.id, o.slot)) (mem_outs.2 ⟨o, ho, rfl, rfl⟩)

/-- The next one that is free, counted round. -/
def nf (p : Nat → Bool) : Nat → Nat → Nat
  | 0, x => x
  | f + 1, x => if p x then nf p f ((x + 1) % 65536) else x
theorem nf_lt (p : Nat → Bool) : ∀ f x, x < 65536 → nf p f x < 65536
  | 0, x, h => h
  | f + 1, x, h => by
    unfold nf
    split
    · exact nf_lt p f _ (Nat.mod_lt _ (by omega))
    · exact h
theorem nf_all (p : Nat → Bool) : ∀ f x, x < 65536 → p (nf p f x) = true → ∀ k, k ≤ f → p ((x + k) % 65536) = true
  | 0, x, h, hp => by
    intro k hk
    have : k = 0 := by omega
    subst this
    rw [Nat.add_zero, Nat.mod_eq_of_lt h]
    exact hp
  | f + 1, x, h, hp => by
    intro k hk
    unfold nf at hp
    by_cases hx : p x = true
    · rw [if_pos hx] at hp
      cases k with
      | zero => rw [Nat.add_zero, Nat.mod_eq_of_lt h]; exact hx
      | succ k =>
        have := nf_all p f _ (Nat.mod_lt _ (by omega)) hp k (by omega)
        have e : ((x + 1) % 65536 + k) % 65536 = (x + (k + 1)) % 65536 := by omega
        rwa [e] at this
    · rw [if_neg hx] at hp
      exact absurd hp hx
theorem nf_free (p : Nat → Bool) (x z : Nat) (hx : x < 65536) (hz : z < 65536) (hp : p z = false) : p (nf p 65536 x) = false := by
  cases h : p (nf p 65536 x) with
  | false => rfl
  | true =>
    have := nf_all p 65536 x hx h ((z + 65536 - x) % 65536) (by omega)
    have e : (x + (z + 65536 - x) % 65536) % 65536 = z := by omega
    rw [e, hp] at this
    cases this
theorem exists_free {M : List (Nat × Int)} (hn : (keysP M).Nodup) (hl : M.length < 65536) : ∃ z, z < 65536 ∧ hasP M z = false := by
  refine Classical.byContradiction fun hno => ?_
  have hall : ∀ z, z < 65536 → z ∈ keysP M := by
    intro z hz
    cases h : hasP M z with
    | true => exact hasP_mem.1 h
    | false => exact absurd ⟨z, hz, h⟩ hno
  have hsub : ∀ (m : Nat) (K : List Nat), K.Nodup → (∀ z, z < m → z ∈ K) → m ≤ K.length := by
    intro m
    induction m with
    | zero => intro K _ _; exact Nat.zero_le _
    | succ m ih =>
      intro K hK hm
      have h1 := ih (K.erase m) (hK.erase m) (fun z hz => (hK.mem_erase_iff).2 ⟨by omega, hm z (by omega)⟩)
      rw [List.length_erase_of_mem (hm m (by omega))] at h1
      have : 0 < K.length := List.length_pos_of_mem (hm m (by omega))
      omega
  have := hsub 65536 _ hn hall
  simp [keysP] at this
  omega
def nextO (L : List Ou) (u : Int) (x : Nat) : Nat := nf (hasO L u) 65536 x
theorem nextO_free {n : Nat} {L : List Ou} (h : OkO n L) {u : Int} (hl : lenO L u < 65536) {x : Nat} (hx : x < 65536) : hasO L u (nextO L u x) = false := by
  obtain ⟨z, hz, hf⟩ := exists_free (h.keys u) hl
  exact nf_free _ _ z hx hz hf
theorem nextO_lt (L : List Ou) (u : Int) {x : Nat} (hx : x < 65536) : nextO L u x < 65536 := nf_lt _ _ _ hx
/-- Drawn for a slot, of the number x. -/
def drawO (L : List Ou) (u slot : Int) (x : Nat) : List Ou := L ++ [⟨u, slot, nextO L u x⟩]
theorem OkO.add {n : Nat} {L : List Ou} (h : OkO n L) {u slot : Int} {id : Nat} (h1 : 0 ≤ u) (h2 : u < n) (h3 : 0 ≤ slot) (h4 : slot < 32) (hi : id < 65536) (hf : hasO L u id = false) : OkO n (L ++ [⟨u, slot, id⟩]) := by
  refine ⟨?_, ?_, ?_, ?_⟩
  · intro o ho
    rcases List.mem_append.1 ho with e | e
    · exact h.r o e
    · simp at e; subst e; exact ⟨h1, h2⟩
  · intro o ho
    rcases List.mem_append.1 ho with e | e
    · exact h.s o e
    · simp at e; subst e; exact ⟨h3, h4⟩
  · intro o ho
    rcases List.mem_append.1 ho with e | e
    · exact h.i o e
    · simp at e; subst e; exact hi
  · rw [List.pairwise_append]
    refine ⟨h.d, by simp, ?_⟩
    intro a ha b hb
    simp at hb
    subst hb
    rintro ⟨e1, e2⟩
    have := hasO_iff.2 ⟨a, ha, e1, e2⟩
    have e3 : hasO L u id = true := this
    rw [hf] at e3
    cases e3
theorem OkO.draw {n : Nat} {L : List Ou} (h : OkO n L) {u slot : Int} {x : Nat} (h1 : 0 ≤ u) (h2 : u < n) (h3 : 0 ≤ slot) (h4 : slot < 32) (hl : lenO L u < 65536) (hx : x < 65536) : OkO n (drawO L u slot x) :=
  h.add h1 h2 h3 h4 (nextO_lt L u hx) (nextO_free h hl hx)
theorem outs_add (L : List Ou) (u slot : Int) (id : Nat) (v : Int) : outsP (L ++ [⟨u, slot, id⟩]) v = if v = u then outsP L v ++ [(id, slot)] else outsP L v := by
  unfold outsP
  rw [List.filter_append, List.map_append]
  by_cases e : v = u
  · rw [if_pos e]; simp [e]
  · rw [if_neg e]
    have : ¬ u = v := fun h => e h.symm
    simp [this]

/-- What is freed of a slot at an upstream; at all upstreams. -/
def freeO (L : List Ou) (s u : Int) : List Ou := L.filter fun o => !(decide (o.slot = s) && decide (o.u = u))
def freeA (L : List Ou) (s : Int) : List Ou := L.filter fun o => !decide (o.slot = s)
theorem freeO_sub (L : List Ou) (s u : Int) : (freeO L s u).Sublist L := List.filter_sublist
theorem freeA_sub (L : List Ou) (s : Int) : (freeA L s).Sublist L := List.filter_sublist
theorem outs_free (L : List Ou) (s u v : Int) : outsP (freeO L s u) v = if v = u then (outsP L v).filter (fun p => !decide (p.2 = s)) else outsP L v := by
  unfold outsP freeO
  rw [List.filter_filter]
  by_cases e : v = u
  · rw [if_pos e, List.filter_map, List.filter_filter]
    congr 1
    apply List.filter_congr
    intro o _
    subst e
    by_cases h1 : o.u = v <;> simp [h1]
  · rw [if_neg e]
    congr 1
    apply List.filter_congr
    intro o _
    by_cases h1 : o.u = v
    · have : ¬ o.u = u := fun h => e (h1 ▸ h)
      simp [this]
    · simp [h1]
theorem freeO_out {n : Nat} {L : List Ou} (h : OkO n L) {s u : Int} (hu : u < 0 ∨ (n : Int) ≤ u) : freeO L s u = L := by
  refine List.filter_eq_self.2 fun o ho => ?_
  have := h.r o ho
  have e : ¬ o.u = u := by omega
  simp [e]
/-- What is left of the first k upstreams' ones of a slot. -/
def freeK (L : List Ou) (s : Int) (k : Nat) : List Ou := L.filter fun o => !(decide (o.slot = s) && decide (o.u < (k : Int)))
theorem freeK_zero {n : Nat} {L : List Ou} (h : OkO n L) (s : Int) : freeK L s 0 = L := by
  refine List.filter_eq_self.2 fun o ho => ?_
  have := h.r o ho
  simp
  omega
theorem freeK_succ {n : Nat} {L : List Ou} (h : OkO n L) (s : Int) (k : Nat) : freeO (freeK L s k) s (k : Int) = freeK L s (k + 1) := by
  unfold freeO freeK
  rw [List.filter_filter]
  apply List.filter_congr
  intro o ho
  by_cases h1 : o.slot = s
  · by_cases h2 : o.u = (k : Int)
    · simp [h1, h2]
      omega
    · by_cases h3 : o.u < (k : Int)
      · have : o.u < (k : Int) + 1 := by omega
        simp [h1, h3, this]
      · have : ¬ o.u < (k : Int) + 1 := by omega
        simp [h1, h2, h3, this]
  · simp [h1]
theorem freeK_all {n : Nat} {L : List Ou} (h : OkO n L) (s : Int) : freeK L s n = freeA L s := by
  unfold freeK freeA
  apply List.filter_congr
  intro o ho
  have := (h.r o ho).2
  simp [this]
theorem freeK_sub (L : List Ou) (s : Int) (k : Nat) : (freeK L s k).Sublist L := List.filter_sublist
theorem freeK_le (L : List Ou) (s : Int) (k : Nat) : (freeK L s k).length ≤ L.length := (freeK_sub L s k).length_le
theorem freeO_le (L : List Ou) (s u : Int) : (freeO L s u).length ≤ L.length := (freeO_sub L s u).length_le
theorem freeA_le (L : List Ou) (s : Int) : (freeA L s).length ≤ L.length := (freeA_sub L s).length_le

/-- A range over those at an upstream, of which some are still to come (left): what was met of a slot is gone. -/
def metP (M : List (Nat × Int)) (s : Int) (left : Nat → Bool) : List (Nat × Int) := M.filter fun p => !(decide (p.2 = s) && !left p.1)
theorem metP_start (M : List (Nat × Int)) (s : Int) (left : Nat → Bool) (h : ∀ p ∈ M, left p.1 = true) : metP M s left = M := by
  refine List.filter_eq_self.2 fun p hp => ?_
  simp [h p hp]
theorem metP_end (M : List (Nat × Int)) (s : Int) (left : Nat → Bool) (h : ∀ x, left x = false) : metP M s left = M.filter fun p => !decide (p.2 = s) := by
  unfold metP
  apply List.filter_congr
  intro p _
  simp [h p.1]
theorem key_inj {M : List (Nat × Int)} (hn : (keysP M).Nodup) {p q : Nat × Int} (hp : p ∈ M) (hq : q ∈ M) (e : p.1 = q.1) : p = q := by
  have h1 := atP_of hn hp
  have h2 := atP_of hn hq
  rw [e, h2] at h1
  exact Prod.ext e h1.symm
theorem metP_other {M : List (Nat × Int)} (hn : (keysP M).Nodup) {s : Int} {left : Nat → Bool} {p : Nat × Int} (hp : p ∈ M) (hs : p.2 ≠ s) : metP M s (fun z => left z && !decide (z = p.1)) = metP M s left := by
  unfold metP
  apply List.filter_congr
  intro q hq
  by_cases e : q.1 = p.1
  · have := key_inj hn hq hp e
    subst this
    simp [hs]
  · simp [e]
theorem metP_same {M : List (Nat × Int)} (hn : (keysP M).Nodup) {s : Int} {left : Nat → Bool} {p : Nat × Int} (hp : p ∈ M) (hs : p.2 = s) : metP M s (fun z => left z && !decide (z = p.1)) = (metP M s left).filter fun q => !decide (q.1 = p.1) := by
  unfold metP
  rw [List.filter_filter]
  apply List.filter_congr
  intro q hq
  by_cases e : q.1 = p.1
  · have := key_inj hn hq hp e
    subst this
    simp [hs]
  · simp [e]
theorem del_len {M : List (Nat × Int)} (hn : (keysP M).Nodup) {p : Nat × Int} (hp : p ∈ M) : (M.filter fun q => !decide (q.1 = p.1)).length + 1 = M.length := by
  induction M with
  | nil => simp at hp
  | cons q M ih =>
    unfold keysP at hn
    rw [List.map_cons, List.nodup_cons] at hn
    rcases List.mem_cons.1 hp with e | e
    · subst e
      rw [List.filter_cons, if_neg (by simp)]
      have : (M.filter fun q => !decide (q.1 = p.1)) = M := List.filter_eq_self.2 fun r hr => by
        have : ¬ r.1 = p.1 := fun e => hn.1 (by rw [← e]; exact List.mem_map.2 ⟨r, hr, rfl⟩)
        simp [this]
      rw [this]; rfl
    · have hne : ¬ q.1 = p.1 := fun e2 => hn.1 (by rw [e2]; exact List.mem_map.2 ⟨p, e, rfl⟩)
      rw [List.filter_cons, if_pos (by simp [hne])]
      have := ih hn.2 e
      simp only [List.length_cons]
      omega
theorem mem_met {M : List (Nat × Int)} {s : Int} {left : Nat → Bool} {p : Nat × Int} (hp : p ∈ M) (hl : left p.1 = true) : p ∈ metP M s left := List.mem_filter.2 ⟨hp, by simp [hl]⟩
theorem keys_met {M : List (Nat × Int)} (hn : (keysP M).Nodup) (s : Int) (left : Nat → Bool) : (keysP (metP M s left)).Nodup := by
  have h : (metP M s left).Sublist M := List.filter_sublist
  exact hn.sublist (h.map _)
theorem free_outs_len (L : List Ou) (s u : Int) : L.length - (freeO L s u).length = (outsP L u).length - ((outsP L u).filter fun p => !decide (p.2 = s)).length := by
  have h1 : ∀ L : List Ou, (freeO L s u).length + (outsP L u).length = L.length + ((outsP L u).filter fun p => !decide (p.2 = s)).length := by
    intro L
    induction L with
    | nil => rfl
    | cons o L ih =>
      unfold freeO outsP at ih ⊢
      rw [List.filter_cons, List.filter_cons]
      by_cases e1 : o.u = u
      · by_cases e2 : o.slot = s
        · simp only [e1, e2, decide_true, Bool.and_self, Bool.not_true, Bool.false_eq_true, if_false, if_true, List.map_cons, List.length_cons, List.filter_cons]
          omega
        · simp only [e1, e2, decide_true, decide_false, Bool.false_and, Bool.not_false, if_true, List.map_cons, List.length_cons, List.filter_cons]
          omega
      · simp only [e1, decide_false, Bool.and_false, Bool.not_false, Bool.false_eq_true, if_true, if_false, List.length_cons]
        omega
  have := h1 L
  have h2 := freeO_le L s u
  have h3 := List.length_filter_le (fun p : Nat × Int => !decide (p.2 = s)) (outsP L u)
  omega

end Go.Proofs.Yteehenajchdgaaa
