/- Enough may be asked, behind all acts. -/
import Derived.Test.YtdbannnbbngckaaRepH20
namespace Go.Proofs.Ytdbannnbbngckaa

theorem backB_get {L : Nat} {n : Int} {us : List Up} {i : Nat} (h : i < us.length) (h' : i < (backB L n us).length) : (backB L n us)[i] = us[i].backS L n := by simp only [backB, List.getElem_map]

/-- Enough may be asked. -/
def Enough (us : List Up) : Prop := us.length / 2 + 1 ≤ (mayN us).length

theorem may_same {us vs : List Up} (h : us.map (·.rests) = vs.map (·.rests)) : mayN us = mayN vs := by
  have key : ∀ (us vs : List Up) (i : Nat), us.map (·.rests) = vs.map (·.rests) → idxN free i us = idxN free i vs := by
    intro us
    induction us with
    | nil => intro vs i h; cases vs with | nil => rfl | cons => simp at h
    | cons p l ih =>
      intro vs i h
      cases vs with
      | nil => simp at h
      | cons q m =>
        simp at h
        have hf : free p = free q := by unfold free; rw [h.1]
        simp only [idxN, hf]
        rw [ih m (i + 1) (by simpa using h.2)]
  exact key us vs 0 h

theorem modify_rests {us : List Up} {f : Up → Up} (u : Nat) (hf : ∀ p, (f p).rests = p.rests) : (us.modify u f).map (·.rests) = us.map (·.rests) := by
  apply List.ext_getElem (by simp)
  intro i h1 h2
  simp only [List.getElem_map, List.getElem_modify]
  split
  · exact hf _
  · rfl
theorem look_rests (L : Nat) (p : Up) : (p.look L).rests = p.rests := by unfold Up.look; split <;> rfl
theorem agreeS_rests (L : Nat) (p : Up) : (p.agreeS L).rests = p.rests := by unfold Up.agreeS; rw [look_rests]

theorem idx_mono (f g : Up → Bool) : ∀ (us vs : List Up) (i : Nat), us.length = vs.length → (∀ j (h : j < us.length) (h' : j < vs.length), f us[j] = true → g vs[j] = true) → (idxN f i us).length ≤ (idxN g i vs).length
  | [], [], _, _, _ => Nat.le_refl _
  | [], _ :: _, _, h, _ => by simp at h
  | _ :: _, [], _, h, _ => by simp at h
  | p :: l, q :: m, i, h, hh => by
    have ih := idx_mono f g l m (i + 1) (by simpa using h) (fun j h1 h2 => hh (j + 1) (by simpa using h1) (by simpa using h2))
    have h0 := hh 0 (by simp) (by simp)
    simp only [List.getElem_cons_zero] at h0
    simp only [idxN]
    by_cases hp : f p = true
    · rw [if_pos hp, if_pos (h0 hp)]; simpa using ih
    · rw [if_neg hp]; split
      · simp; omega
      · exact ih

theorem enough_do {L R : Nat} {us : List Up} (h : Enough us) (k : Nat) (u n : Int) : Enough (doB L R us k u n) := by
  have hl := doB_len L R us k u n
  unfold Enough at h ⊢
  rw [hl]
  have same : (doB L R us k u n).map (·.rests) = us.map (·.rests) → us.length / 2 + 1 ≤ (mayN (doB L R us k u n)).length := fun e => by rw [may_same e]; exact h
  unfold doB at same ⊢
  split
  · rename_i h0
    rw [if_pos h0] at same
    split
    · rename_i h1
      rw [if_pos h1] at same
      exact same (modify_rests _ (agreeS_rests L))
    · exact h
  split
  · split
    · by_cases hlv : leaves L us u.toNat = true
      · -- the one that leaves: as many others are left
        rename_i hhas
        simp only [Bool.and_eq_true] at hhas
        obtain ⟨m, hm, hmn⟩ := nat_of_has hhas.1
        subst hm
        rw [Int.toNat_natCast] at hlv ⊢
        have e : disB L R us m n.toNat = us.set m (us[m].dis.leave (n.toNat + R)) := by
          unfold disB
          rw [modify_set us m _ hmn, hlv, if_pos rfl]
        rw [e]
        have o1 := oth_may m (us.set m (us[m].dis.leave (n.toNat + R))) 0 m (by simpa using hmn) (by omega)
        have hnf : free ((us.set m (us[m].dis.leave (n.toNat + R)))[m]'(by simpa using hmn)) = false := by rw [List.getElem_set_self]; rfl
        rw [hnf, othN_set us m _ hmn] at o1
        unfold leaves at hlv
        rw [List.getElem?_eq_getElem hmn] at hlv
        simp only [Bool.and_eq_true, decide_eq_true_eq] at hlv
        have := hlv.2
        unfold mayN
        simp only [Bool.false_eq_true, if_false, Nat.add_zero] at o1
        omega
      · have hlv' : leaves L us u.toNat = false := by simpa using hlv
        have e : (disB L R us u.toNat n.toNat).map (·.rests) = us.map (·.rests) := by
          unfold disB
          rw [hlv']
          exact modify_rests _ fun _ => rfl
        rw [may_same e]; exact h
    · exact h
  split
  · split
    · have e : (silentB us u.toNat).map (·.rests) = us.map (·.rests) := modify_rests _ fun _ => rfl
      rw [may_same e]; exact h
    · exact h
  split
  · refine Nat.le_trans h ?_
    unfold mayN
    refine idx_mono free free us (backB L n us) 0 (by rw [backB_len]) ?_
    intro j h1 h2 hf
    rw [backB_get h1 h2]
    unfold Up.backS
    have : us[j].rests = false := by simpa [free] using hf
    have ho : us[j].over n = false := by unfold Up.over; rw [this]; rfl
    rw [ho]
    exact hf
  · exact h
theorem enough_new (n : Nat) (h : 1 ≤ n) : Enough (newB n) := by
  have key : ∀ n i, (idxN free i (List.replicate n up0)).length = n := by
    intro n
    induction n with
    | zero => intro i; rfl
    | succ n ih => intro i; rw [List.replicate_succ]; simp only [idxN]; rw [if_pos (by rfl), List.length_cons, ih]
  unfold Enough mayN newB
  rw [key]
  simp
  omega
theorem enough_fold {L R : Nat} (acts : List ActT) : ∀ {us : List Up}, Enough us → Enough (foldB L R us acts) := by
  induction acts with
  | nil => intro us h; exact h
  | cons a l ih => intro us h; exact ih (enough_do h a.k a.u a.n)

end Go.Proofs.Ytdbannnbbngckaa
