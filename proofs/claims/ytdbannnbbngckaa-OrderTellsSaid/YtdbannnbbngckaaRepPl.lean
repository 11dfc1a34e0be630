/- The book of package repute, as plain data: upstreams, and what is done to them. -/
import Derived.WalkKit
namespace Go.Proofs.Ytdbannnbbngckaa

structure Up where
  score : Nat
  agree : Nat
  dissent : Nat
  silent : Nat
  rests : Bool
  trial : Bool
  til : Nat
deriving DecidableEq

def bnd (L : Nat) : Nat := min (L + 10) 100
def cnt (n : Nat) : Nat := min (n + 1) 65535

/-- Is a trial over? -/
def Up.look (L : Nat) (p : Up) : Up := if bnd L ≤ p.score then { p with trial := false } else p
def Up.agreeS (L : Nat) (p : Up) : Up := ({ p with agree := cnt p.agree, score := min (p.score + 1) 100 } : Up).look L
def Up.silentS (p : Up) : Up := { p with silent := cnt p.silent, score := p.score - 2 }
def Up.dis (p : Up) : Up := { p with dissent := cnt p.dissent, score := p.score - 10 }
def Up.leave (t : Nat) (p : Up) : Up := { p with rests := true, trial := false, til := t }
def Up.over (now : Int) (p : Up) : Bool := p.rests && decide ((p.til : Int) ≤ now)
def Up.ret (L : Nat) (p : Up) : Up := ({ p with rests := false, trial := true, til := 0, score := L } : Up).look L
def Up.backS (L : Nat) (now : Int) (p : Up) : Up := if p.over now then p.ret L else p

/-- How many others do not rest. -/
def othN (u : Nat) : Nat → List Up → Nat
  | _, [] => 0
  | i, p :: l => (if i ≠ u ∧ p.rests = false then 1 else 0) + othN u (i + 1) l
theorem othN_snoc (u : Nat) (p : Up) : ∀ (l : List Up) (i : Nat), othN u i (l ++ [p]) = othN u i l + (if i + l.length ≠ u ∧ p.rests = false then 1 else 0)
  | [], i => by simp [othN]
  | q :: l, i => by
    simp only [List.cons_append, othN, othN_snoc u p l (i + 1), List.length_cons]
    rw [show i + 1 + l.length = i + (l.length + 1) by omega]
    omega
theorem othN_le (u : Nat) : ∀ (l : List Up) (i : Nat), othN u i l ≤ l.length
  | [], i => by simp [othN]
  | q :: l, i => by
    have := othN_le u l (i + 1)
    simp only [othN, List.length_cons]
    split <;> omega

/-- The numbers of those for which f holds. -/
def idxN (f : Up → Bool) : Nat → List Up → List Nat
  | _, [] => []
  | i, p :: l => if f p then i :: idxN f (i + 1) l else idxN f (i + 1) l
theorem idxN_snoc (f : Up → Bool) (p : Up) : ∀ (l : List Up) (i : Nat), idxN f i (l ++ [p]) = idxN f i l ++ (if f p then [i + l.length] else [])
  | [], i => by simp only [idxN, List.nil_append, List.length_nil, Nat.add_zero]
  | q :: l, i => by
    simp only [List.cons_append, idxN, idxN_snoc f p l (i + 1), List.length_cons]
    rw [show i + 1 + l.length = i + (l.length + 1) by omega]
    split <;> simp
theorem idxN_len (f : Up → Bool) : ∀ (l : List Up) (i : Nat), (idxN f i l).length ≤ l.length
  | [], i => by simp [idxN]
  | q :: l, i => by
    have := idxN_len f l (i + 1)
    simp only [idxN]
    split <;> simp <;> omega
theorem idxN_mem (f : Up → Bool) (x : Nat) : ∀ (l : List Up) (i : Nat), x ∈ idxN f i l ↔ ∃ (h : i ≤ x) (h2 : x - i < l.length), f l[x - i] = true
  | [], i => by simp [idxN]
  | q :: l, i => by
    have ih := idxN_mem f x l (i + 1)
    have key : (∃ (h : i ≤ x) (h2 : x - i < (q :: l).length), f (q :: l)[x - i] = true) ↔ (x = i ∧ f q = true) ∨ x ∈ idxN f (i + 1) l := by
      rw [ih]
      constructor
      · rintro ⟨h, h2, h3⟩
        by_cases e : x = i
        · subst e
          simp at h3
          exact .inl ⟨rfl, h3⟩
        · right
          have e2 : x - i = (x - (i + 1)) + 1 := by omega
          simp only [e2, List.getElem_cons_succ] at h3
          exact ⟨by omega, by simp at h2; omega, h3⟩
      · rintro (⟨rfl, h⟩ | ⟨h, h2, h3⟩)
        · exact ⟨Nat.le_refl _, by simp, by simpa using h⟩
        · have e2 : x - i = (x - (i + 1)) + 1 := by omega
          refine ⟨by omega, by simp; omega, ?_⟩
          simp only [e2, List.getElem_cons_succ]
          exact h3
    rw [key]
    simp only [idxN]
    split <;> rename_i hf <;> simp [hf]
theorem idxN_sorted (f : Up → Bool) : ∀ (l : List Up) (i : Nat), (idxN f i l).Pairwise (· < ·)
  | [], i => by simp [idxN]
  | q :: l, i => by
    have ih := idxN_sorted f l (i + 1)
    simp only [idxN]
    split
    · refine List.pairwise_cons.2 ⟨fun x hx => ?_, ih⟩
      obtain ⟨h, _⟩ := (idxN_mem f x l (i + 1)).1 hx
      omega
    · exact ih

def free (p : Up) : Bool := !p.rests
def mayN (us : List Up) : List Nat := idxN free 0 us
def backI (now : Int) (us : List Up) : List Nat := idxN (Up.over now) 0 us

theorem oth_far (u : Nat) : ∀ (l : List Up) (i : Nat), u < i → othN u i l = (idxN free i l).length
  | [], i, _ => rfl
  | q :: l, i, h => by
    have ih := oth_far u l (i + 1) (by omega)
    simp only [othN, idxN]
    by_cases hq : q.rests = true
    · rw [if_neg (by simp [hq]), if_neg (by simp [free, hq]), ih]; omega
    · rw [if_pos ⟨by omega, by simpa using hq⟩, if_pos (by simpa [free] using hq), List.length_cons, ih]; omega
theorem oth_may (u : Nat) : ∀ (l : List Up) (i j : Nat) (h : j < l.length), i + j = u → othN u i l + (if free l[j] then 1 else 0) = (idxN free i l).length
  | q :: l, i, 0, _, h => by
    have hi : i = u := by omega
    subst hi
    have ih := oth_far i l (i + 1) (by omega)
    simp only [othN, idxN, List.getElem_cons_zero, ne_eq, not_true_eq_false, false_and, if_false]
    split <;> simp [ih]
  | q :: l, i, j + 1, hl, h => by
    have ih := oth_may u l (i + 1) j (by simpa using hl) (by omega)
    simp only [othN, idxN, List.getElem_cons_succ]
    by_cases hq : q.rests = true
    · have hf : ¬ free q = true := by simp [free, hq]
      rw [if_neg (by simp [hq]), if_neg hf, ← ih]; omega
    · have hf : free q = true := by simpa [free] using hq
      rw [if_pos ⟨by omega, by simpa using hq⟩, if_pos hf, List.length_cons, ← ih]; omega

/-- The least reading at which one is back, and is there one. -/
def dueS (a : Nat × Bool) (p : Up) : Nat × Bool := if p.rests && (!a.2 || decide (p.til < a.1)) then (p.til, true) else a
def dueN (us : List Up) : Nat × Bool := us.foldl dueS (0, false)
theorem dueN_snoc (us : List Up) (p : Up) : dueN (us ++ [p]) = dueS (dueN us) p := by simp [dueN]

/-- The number of an upstream, if there is such a one. -/
def hasB (us : List Up) (u : Int) : Bool := decide (0 ≤ u ∧ u < us.length)
theorem hasB_iff {us : List Up} {u : Int} : hasB us u = true ↔ 0 ≤ u ∧ u < us.length := by simp [hasB]
def at1 (us : List Up) (u : Nat) (f : Up → Up) : List Up := us.modify u f

def agreeB (L : Nat) (us : List Up) (u : Nat) : List Up := us.modify u (Up.agreeS L)
def silentB (us : List Up) (u : Nat) : List Up := us.modify u Up.silentS
/-- Does it leave, behind a dissent? -/
def leaves (L : Nat) (us : List Up) (u : Nat) : Bool := match us[u]? with
  | none => false
  | some p => !p.rests && decide (p.dis.score < L) && decide (us.length / 2 + 1 ≤ othN u 0 us)
def disB (L R : Nat) (us : List Up) (u now : Nat) : List Up := us.modify u (fun p => if leaves L us u then p.dis.leave (now + R) else p.dis)
def backB (L : Nat) (now : Int) (us : List Up) : List Up := us.map (Up.backS L now)

theorem othN_modify (u : Nat) (f : Up → Up) : ∀ (l : List Up) (i j : Nat), i + j = u → othN u i (l.modify j f) = othN u i l
  | [], i, j, _ => by simp [othN]
  | q :: l, i, 0, h => by
    have hi : i = u := by omega
    simp only [List.modify_zero_cons, othN, hi, ne_eq, not_true_eq_false, false_and, if_false]
  | q :: l, i, j + 1, h => by
    simp only [List.modify_succ_cons, othN]
    rw [othN_modify u f l (i + 1) j (by omega)]

/-- What is so of every upstream. -/
structure UpOk (p : Up) : Prop where
  score : p.score ≤ 100
  agree : p.agree ≤ 65535
  dissent : p.dissent ≤ 65535
  silent : p.silent ≤ 65535
  til : p.til ≤ 2000000000000

theorem cnt_le (n : Nat) : cnt n ≤ 65535 := by unfold cnt; omega
theorem look_ok {L : Nat} {p : Up} (h : UpOk p) : UpOk (p.look L) := by
  unfold Up.look
  split
  · exact ⟨h.1, h.2, h.3, h.4, h.5⟩
  · exact h
theorem agreeS_ok {L : Nat} {p : Up} (h : UpOk p) : UpOk (p.agreeS L) := look_ok ⟨by show min _ _ ≤ _; omega, cnt_le _, h.3, h.4, h.5⟩
theorem silentS_ok {p : Up} (h : UpOk p) : UpOk p.silentS := ⟨by have := h.1; show p.score - 2 ≤ 100; omega, h.2, h.3, cnt_le _, h.5⟩
theorem dis_ok {p : Up} (h : UpOk p) : UpOk p.dis := ⟨by have := h.1; show p.score - 10 ≤ 100; omega, h.2, cnt_le _, h.4, h.5⟩
theorem leave_ok {t : Nat} {p : Up} (h : UpOk p) (ht : t ≤ 2000000000000) : UpOk (p.leave t) := ⟨h.1, h.2, h.3, h.4, ht⟩
theorem ret_ok {L : Nat} {p : Up} (h : UpOk p) (hL : L ≤ 100) : UpOk (p.ret L) := look_ok ⟨hL, h.2, h.3, h.4, Nat.zero_le _⟩
theorem backS_ok {L : Nat} {now : Int} {p : Up} (h : UpOk p) (hL : L ≤ 100) : UpOk (p.backS L now) := by
  unfold Up.backS
  split
  · exact ret_ok h hL
  · exact h

def AllOk (us : List Up) : Prop := ∀ p ∈ us, UpOk p
theorem mem_modify {f : Up → Up} {x : Up} {l : List Up} {u : Nat} (h : x ∈ l.modify u f) : x ∈ l ∨ ∃ y ∈ l, x = f y := by
  obtain ⟨i, hi, rfl⟩ := List.mem_iff_getElem.1 h
  rw [List.getElem_modify]
  split
  · exact .inr ⟨_, List.getElem_mem _, rfl⟩
  · exact .inl (List.getElem_mem _)
theorem allOk_modify {us : List Up} {u : Nat} {f : Up → Up} (h : AllOk us) (hf : ∀ p, UpOk p → UpOk (f p)) : AllOk (us.modify u f) := by
  intro x hx
  rcases mem_modify hx with hx | ⟨y, hy, rfl⟩
  · exact h x hx
  · exact hf y (h y hy)
theorem agreeB_ok {L : Nat} {us : List Up} (h : AllOk us) (u : Nat) : AllOk (agreeB L us u) := allOk_modify h fun _ => agreeS_ok
theorem silentB_ok {us : List Up} (h : AllOk us) (u : Nat) : AllOk (silentB us u) := allOk_modify h fun _ => silentS_ok
theorem disB_ok {L R : Nat} {us : List Up} (h : AllOk us) (u now : Nat) (hr : now + R ≤ 2000000000000) : AllOk (disB L R us u now) := by
  refine allOk_modify h fun p hp => ?_
  split
  · exact leave_ok (dis_ok hp) hr
  · exact dis_ok hp
theorem backB_ok {L : Nat} {now : Int} {us : List Up} (h : AllOk us) (hL : L ≤ 100) : AllOk (backB L now us) := by
  intro x hx
  obtain ⟨y, hy, rfl⟩ := List.mem_map.1 hx
  exact backS_ok (h y hy) hL

/-- What is done: 0 Agree, 1 Dissent, 2 Silent, 3 Back, else nothing. -/
def doB (L R : Nat) (us : List Up) (k : Nat) (u n : Int) : List Up :=
  if k = 0 then (if hasB us u then agreeB L us u.toNat else us)
  else if k = 1 then (if hasB us u && decide (0 ≤ n ∧ n ≤ 1099511627776) then disB L R us u.toNat n.toNat else us)
  else if k = 2 then (if hasB us u then silentB us u.toNat else us)
  else if k = 3 then backB L n us
  else us

theorem doB_ok {L R : Nat} {us : List Up} (h : AllOk us) (hL : L ≤ 100) (hR : R ≤ 100000) (k : Nat) (u n : Int) : AllOk (doB L R us k u n) := by
  unfold doB
  split
  · split
    · exact agreeB_ok h _
    · exact h
  split
  · split
    · rename_i hh
      simp at hh
      exact disB_ok h _ _ (by omega)
    · exact h
  split
  · split
    · exact silentB_ok h _
    · exact h
  split
  · exact backB_ok h hL
  · exact h
theorem agreeB_len (L : Nat) (us : List Up) (u : Nat) : (agreeB L us u).length = us.length := by simp [agreeB]
theorem silentB_len (us : List Up) (u : Nat) : (silentB us u).length = us.length := by simp [silentB]
theorem disB_len (L R : Nat) (us : List Up) (u n : Nat) : (disB L R us u n).length = us.length := by simp [disB]
theorem backB_len (L : Nat) (now : Int) (us : List Up) : (backB L now us).length = us.length := by simp [backB]
theorem doB_len (L R : Nat) (us : List Up) (k : Nat) (u n : Int) : (doB L R us k u n).length = us.length := by
  unfold doB
  repeat' split
  all_goals simp [agreeB_len, silentB_len, disB_len, backB_len]

def up0 : Up := ⟨100, 0, 0, 0, false, false, 0⟩
theorem up0_ok : UpOk up0 := ⟨by decide, by decide, by decide, by decide, by decide⟩
def newB (n : Nat) : List Up := List.replicate n up0
theorem newB_ok (n : Nat) : AllOk (newB n) := fun p hp => by rw [(List.mem_replicate.1 hp).2]; exact up0_ok

end Go.Proofs.Ytdbannnbbngckaa
