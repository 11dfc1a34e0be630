/- The cache, as plain data: what is kept, by its last use; what each act does. -/
import Derived.Test.YtgdnfempcjlipaaNameZ
namespace Go.Proofs.Ytgdnfempcjlipaa

structure Qn where
  nm : ByteArray
  ty : Nat
  cl : Nat
deriving DecidableEq
structure SetP where
  nm : ByteArray
  ty : Nat
  cl : Nat
  ttl : Nat
  data : List ByteArray
deriving DecidableEq
structure Ver where
  code : Nat
  sets : List SetP
  soa : List SetP
deriving DecidableEq
structure En where
  q : Qn
  v : Ver
  til : Int
def mayQ (q : Qn) : Bool := mayB q.nm.data.toList
def foldQ (q : Qn) : Qn := ⟨foldS q.nm, q.ty, q.cl⟩
theorem foldS_again (s : ByteArray) : foldS (foldS s) = foldS s := by
  unfold foldS
  rw [show (⟨(foldL s.data.toList).toArray⟩ : ByteArray).data.toList = foldL s.data.toList by simp, foldL_again]
theorem foldQ_again (q : Qn) : foldQ (foldQ q) = foldQ q := by unfold foldQ; rw [foldS_again]
theorem mayQ_fold {q : Qn} (h : mayQ q = true) : mayQ (foldQ q) = true := by
  unfold mayQ foldQ foldS at *
  rw [show (⟨(foldL q.nm.data.toList).toArray⟩ : ByteArray).data.toList = foldL q.nm.data.toList by simp]
  exact mayB_fold h

def topT : Int := 1099511627776
def clampT (old t : Int) : Int := min (max t old) topT
def expM (M : List En) (now : Int) : List En := M.filter fun e => decide (now < e.til)
def hasM (M : List En) (q : Qn) : Bool := M.any fun e => decide (e.q = q)
def dropM (M : List En) (q : Qn) : List En := M.filter fun e => decide (e.q ≠ q)
def getM (M : List En) (q : Qn) : Option En := M.find? fun e => decide (e.q = q)
def keepM (n : Nat) (M : List En) (e : En) : List En := if n = 0 then M else (if hasM M e.q then dropM M e.q else if M.length = n then M.tail else M) ++ [e]
def useM (M : List En) (q : Qn) : List En := match getM M q with | some e => dropM M q ++ [e] | none => M
/-- A cache's tick, and what it keeps. -/
structure Cst where
  now : Int
  M : List En
def advC (c : Cst) (t : Int) : Cst := ⟨clampT c.now t, expM c.M (clampT c.now t)⟩
def okK (q : Qn) (life : Int) : Bool := mayQ q && decide (1 ≤ life)
def keepC (n : Nat) (c : Cst) (q : Qn) (v : Ver) (life t : Int) : Cst :=
  if okK q life = true then ⟨(advC c t).now, keepM n (advC c t).M ⟨foldQ q, v, (advC c t).now + min life topT⟩⟩ else c
def findC (c : Cst) (q : Qn) (t : Int) : Cst := if mayQ q = true then ⟨(advC c t).now, useM (advC c t).M (foldQ q)⟩ else advC c t
def gotC (c : Cst) (q : Qn) (t : Int) : Option En := if mayQ q = true then getM (advC c t).M (foldQ q) else none

/-- What holds of what is kept. -/
structure OkM (n : Nat) (c : Cst) : Prop where
  len : c.M.length ≤ n
  nd : (c.M.map (·.q)).Nodup
  may : ∀ e ∈ c.M, mayQ e.q = true ∧ foldQ e.q = e.q ∧ e.q.ty < 65536 ∧ e.q.cl < 65536
  til : ∀ e ∈ c.M, c.now < e.til ∧ e.til ≤ 2 * topT
  now0 : 0 ≤ c.now
  now1 : c.now ≤ topT

/-- An entry with its slot. -/
structure Sl where
  s : Nat
  e : En
def rowS (L : List Sl) : List Nat := L.map (·.s)
def ensS (L : List Sl) : List En := L.map (·.e)
def cutS (L : List Sl) (s : Nat) : List Sl := L.filter fun x => decide (x.s ≠ s)
theorem cutS_row (L : List Sl) (s : Nat) : rowS (cutS L s) = (rowS L).filter (· ≠ s) := by
  unfold rowS cutS
  rw [List.filter_map]
  rfl
theorem cutS_sub (L : List Sl) (s : Nat) : (cutS L s).Sublist L := List.filter_sublist
theorem inj_of_nodup {α β : Type} {g : α → β} : ∀ {L : List α}, (L.map g).Nodup → ∀ {y x : α}, y ∈ L → x ∈ L → g y = g x → y = x
  | [], _, _, _, hy, _, _ => by cases hy
  | z :: L, h, y, x, hy, hx, e => by
    rw [List.map_cons, List.nodup_cons] at h
    rcases List.mem_cons.1 hy with hy | hy <;> rcases List.mem_cons.1 hx with hx | hx
    · rw [hy, hx]
    · exact absurd (List.mem_map.2 ⟨x, hx, by rw [← e, hy]⟩) h.1
    · exact absurd (List.mem_map.2 ⟨y, hy, by rw [e, hx]⟩) h.1
    · exact inj_of_nodup h.2 hy hx e
/-- Where questions are told apart, the slot of one tells its entry. -/
theorem cutS_ens {L : List Sl} (h1 : (rowS L).Nodup) (h2 : ((ensS L).map (·.q)).Nodup) {x : Sl} (hx : x ∈ L) : ensS (cutS L x.s) = dropM (ensS L) x.e.q := by
  unfold ensS cutS dropM
  rw [List.filter_map]
  congr 1
  apply List.filter_congr
  intro y hy
  simp only [Function.comp]
  rw [Bool.eq_iff_iff, decide_eq_true_eq, decide_eq_true_eq]
  constructor
  · intro h e
    apply h
    have : (ensS L).map (·.q) = L.map fun z => z.e.q := by unfold ensS; rw [List.map_map]; rfl
    rw [this] at h2
    rw [inj_of_nodup h2 hy hx e]
  · intro h e
    apply h
    rw [inj_of_nodup h1 hy hx e]

theorem filter_nodup_map {α β : Type} {g : α → β} {l : List α} {p : α → Bool} (h : (l.map g).Nodup) : ((l.filter p).map g).Nodup := h.sublist (List.filter_sublist.map _)
theorem clamp_ge (old t : Int) (h : old ≤ topT) : old ≤ clampT old t := by unfold clampT topT at *; omega
theorem clamp_le (old t : Int) : clampT old t ≤ topT := by unfold clampT; omega
theorem OkM.adv {n : Nat} {c : Cst} (h : OkM n c) (t : Int) : OkM n (advC c t) := by
  have hge := clamp_ge c.now t h.now1
  refine ⟨Nat.le_trans (List.length_filter_le _ _) h.len, filter_nodup_map h.nd, fun e he => h.may e (List.mem_filter.1 he).1, fun e he => ⟨?_, (h.til e (List.mem_filter.1 he).1).2⟩, Int.le_trans h.now0 hge, clamp_le _ _⟩
  exact of_decide_eq_true (List.mem_filter.1 he).2
theorem mem_dropM {M : List En} {q : Qn} {e : En} : e ∈ dropM M q ↔ e ∈ M ∧ e.q ≠ q := by unfold dropM; rw [List.mem_filter]; simp
theorem hasM_iff {M : List En} {q : Qn} : hasM M q = true ↔ ∃ e ∈ M, e.q = q := by unfold hasM; rw [List.any_eq_true]; simp
theorem nodup_snoc_q {M : List En} {e : En} (h : (M.map (·.q)).Nodup) (hn : ∀ x ∈ M, x.q ≠ e.q) : ((M ++ [e]).map (·.q)).Nodup := by
  rw [List.map_append, List.nodup_append]
  refine ⟨h, by simp, ?_⟩
  intro a ha b hb e2
  simp at hb
  obtain ⟨x, hx, rfl⟩ := List.mem_map.1 ha
  exact hn x hx (by rw [e2, hb])
theorem dropM_len {M : List En} {e : En} (he : e ∈ M) : (dropM M e.q).length < M.length := by
  unfold dropM
  induction M with
  | nil => cases he
  | cons x l ih =>
    rw [List.filter_cons]
    rcases List.mem_cons.1 he with h | h
    · subst h
      rw [if_neg (by simp)]
      have := List.length_filter_le (fun y : En => decide (y.q ≠ e.q)) l
      simp only [List.length_cons]
      omega
    · have := ih h
      split
      · simp only [List.length_cons]; omega
      · simp only [List.length_cons]; omega
theorem keepM_mem {n : Nat} {M : List En} {e x : En} (h : x ∈ keepM n M e) : x ∈ M ∨ x = e := by
  unfold keepM at h
  split at h
  · exact .inl h
  · rcases List.mem_append.1 h with h | h
    · left
      split at h
      · exact (mem_dropM.1 h).1
      · split at h
        · exact List.mem_of_mem_tail h
        · exact h
    · right; simpa using h
theorem keepM_nd {n : Nat} {M : List En} {e : En} (h : (M.map (·.q)).Nodup) : ((keepM n M e).map (·.q)).Nodup := by
  unfold keepM
  split
  · exact h
  · split
    · exact nodup_snoc_q (filter_nodup_map h) fun x hx => (mem_dropM.1 hx).2
    · rename_i hn
      have hno : ∀ x ∈ M, x.q ≠ e.q := fun x hx e2 => hn (hasM_iff.2 ⟨x, hx, e2⟩)
      split
      · refine nodup_snoc_q ?_ fun x hx => hno x (List.mem_of_mem_tail hx)
        exact h.sublist ((List.tail_sublist _).map _)
      · exact nodup_snoc_q h hno
theorem keepM_len {n : Nat} {M : List En} {e : En} (h : M.length ≤ n) : (keepM n M e).length ≤ n := by
  unfold keepM
  split
  · exact h
  · rw [List.length_append, List.length_singleton]
    split
    · rename_i hh
      obtain ⟨x, hx, e2⟩ := hasM_iff.1 hh
      have := dropM_len hx
      rw [e2] at this
      omega
    · split
      · rw [List.length_tail]; omega
      · omega
theorem OkM.keep {n : Nat} {c : Cst} (h : OkM n c) {q : Qn} {v : Ver} {life t : Int} (h1 : q.ty < 65536) (h2 : q.cl < 65536) : OkM n (keepC n c q v life t) := by
  unfold keepC
  split
  · rename_i hok
    have ha := h.adv t
    unfold okK at hok
    rw [Bool.and_eq_true, decide_eq_true_eq] at hok
    refine ⟨keepM_len ha.len, keepM_nd ha.nd, fun e he => ?_, fun e he => ?_, ha.now0, ha.now1⟩
    · rcases keepM_mem he with he | rfl
      · exact ha.may e he
      · exact ⟨mayQ_fold hok.1, foldQ_again q, h1, h2⟩
    · rcases keepM_mem he with he | rfl
      · exact ha.til e he
      · have := ha.now1
        have := ha.now0
        dsimp only
        unfold topT at *
        omega
  · exact h
theorem getM_some {M : List En} {q : Qn} {e : En} (h : getM M q = some e) : e ∈ M ∧ e.q = q := by
  unfold getM at h
  exact ⟨List.mem_of_find?_eq_some h, by simpa using List.find?_some h⟩
theorem getM_none {M : List En} {q : Qn} (h : getM M q = none) : ∀ e ∈ M, e.q ≠ q := by
  unfold getM at h
  intro e he
  simpa using List.find?_eq_none.1 h e he
theorem OkM.use {n : Nat} {c : Cst} (h : OkM n c) (q : Qn) : OkM n ⟨c.now, useM c.M q⟩ := by
  unfold useM
  split
  · rename_i e he
    obtain ⟨hm, rfl⟩ := getM_some he
    have hlt := dropM_len hm
    have hmem : ∀ x ∈ dropM c.M e.q ++ [e], x ∈ c.M := by
      intro x hx
      rcases List.mem_append.1 hx with hx | hx
      · exact (mem_dropM.1 hx).1
      · simp at hx; subst hx; exact hm
    refine ⟨?_, nodup_snoc_q (filter_nodup_map h.nd) fun x hx => (mem_dropM.1 hx).2, fun x hx => h.may x (hmem x hx), fun x hx => h.til x (hmem x hx), h.now0, h.now1⟩
    have := h.len
    simp only [List.length_append, List.length_singleton]
    omega
  · exact h
theorem OkM.find {n : Nat} {c : Cst} (h : OkM n c) (q : Qn) (t : Int) : OkM n (findC c q t) := by
  unfold findC
  split
  · exact (h.adv t).use (foldQ q)
  · exact h.adv t
theorem okM_new (n : Nat) : OkM n ⟨0, []⟩ := ⟨by simp, by simp, by simp, by simp, by simp, by simp [topT]⟩

end Go.Proofs.Ytgdnfempcjlipaa
