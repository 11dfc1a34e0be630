/- A table of questions under way: one slot turns; the walks of folded, Find, Question, Waits, Len, Row, New. -/
import Derived.Test.YtopkbchjlifflaaFlB
import Derived.Test.YtopkbchjlifflaaFlPl2
import Derived.RegionTactic
import Derived.BigRegion
import Derived.Deep.RegionHeld3
namespace Go.Proofs.Ytopkbchjlifflaa
open Go.RowKit Go.Maps

theorem FTc.turn {F F' : List Nat} {w w' : World} {tb n m sb mb : Nat} {rv rv' : Value} {L L' : List Fl} {es : List Ent} {cp : Nat} {tl : List Value} (h : FTc F w tb n m L sb mb rv es cp tl) {s : Nat} (hs : s < es.length) {e' : Ent}
    (hhead : w'.heap[tb]? = some (.cells #[.int .i64 (m : Nat), .slice (some ⟨sb, 0, none⟩) n cp, rv', .map (some mb)] 68 (0, 0)))
    (hents : w'.heap[sb]? = some (.cells (eRow (es.set s e') tl) 85 (0, 0)))
    (hkeep : ∀ t (ht : t < es.length), t ≠ s → ∀ g, es[t].v.ownBlock = some g → w'.heap[g]? = w.heap[g]?)
    (hL : ∀ t, t ≠ s → usedF L' t = usedF L t ∧ qsF L' t = qsF L t ∧ wsF L' t = wsF L t)
    (he : EntOk w' L' s e') (hv : ∀ g, e'.v.ownBlock = some g → es[s].v.ownBlock = some g ∨ w.heap.size ≤ g)
    (hrow : R.OwnR 3 1 sV 0 w' rv' (slotsF L')) (hmap : MapQ w' mb L') (hok : OkF n m L')
    (hF : ∀ y ∈ F, y ∈ F') (hrv : ∀ g, rv'.ownBlock = some g → g ∈ F') (hev : ∀ g, e'.v.ownBlock = some g → g ∈ F') (hlt : ∀ y ∈ F', y < w'.heap.size) : FTc F' w' tb n m L' sb mb rv' (es.set s e') cp tl := by
  have old : ∀ t (ht : t < es.length), ∀ g, es[t].v.ownBlock = some g → g < w.heap.size := fun t ht g hg => h.flt g (h.fes t ht g hg)
  refine ⟨hhead, hents, by rw [List.length_set]; exact h.elen, ?_, ?_, hrow, hmap, hok, h.n1, h.n32, h.m1, h.m16, hF _ h.ftb, hF _ h.fsb, hF _ h.fmb, hrv, ?_, hlt⟩
  · intro t ht0
    have ht : t < es.length := by rw [List.length_set] at ht0; exact ht0
    by_cases e : t = s
    · subst e
      rw [List.getElem_set_self]
      exact he
    · rw [List.getElem_set_ne (fun h => e h.symm)]
      obtain ⟨l1, l2, l3⟩ := hL t e
      have k := h.eok t ht
      refine ⟨k.used.trans l1.symm, k.q.trans l2.symm, ?_⟩
      rw [l3]
      exact k.ws.keep (hkeep t ht e)
  · intro t ht0 u hu0 htu g h1 h2
    have ht : t < es.length := by rw [List.length_set] at ht0; exact ht0
    have hu : u < es.length := by rw [List.length_set] at hu0; exact hu0
    by_cases e : t = s
    · subst e
      rw [List.getElem_set_self] at h1
      rw [List.getElem_set_ne htu] at h2
      rcases hv g h1 with h3 | h3
      · exact h.nd t hs u hu htu g h3 h2
      · have := old u hu g h2; omega
    · rw [List.getElem_set_ne (fun h => e h.symm)] at h1
      by_cases e2 : u = s
      · subst e2
        rw [List.getElem_set_self] at h2
        rcases hv g h2 with h3 | h3
        · exact h.nd t ht u hs htu g h1 h3
        · have := old t ht g h1; omega
      · rw [List.getElem_set_ne (fun h => e2 h.symm)] at h2
        exact h.nd t ht u hu htu g h1 h2
  · intro t ht0 g hg
    have ht : t < es.length := by rw [List.length_set] at ht0; exact ht0
    by_cases e : t = s
    · subst e
      rw [List.getElem_set_self] at hg
      exact hev g hg
    · rw [List.getElem_set_ne (fun h => e h.symm)] at hg
      exact hF _ (h.fes t ht g hg)

theorem set3 {w : World} {p : Nat} {a b c x y z : Value} (h0 : w.cell? ⟨p, 0, none⟩ = some x) (h1 : w.cell? ⟨p, 1, none⟩ = some y) (h2 : w.cell? ⟨p, 2, none⟩ = some z) :
    (((w.setCell ⟨p, 0, none⟩ a).setCell ⟨p, 1, none⟩ b).setCell ⟨p, 2, none⟩ c).cell? ⟨p, 0, none⟩ = some a ∧ (((w.setCell ⟨p, 0, none⟩ a).setCell ⟨p, 1, none⟩ b).setCell ⟨p, 2, none⟩ c).cell? ⟨p, 1, none⟩ = some b ∧ (((w.setCell ⟨p, 0, none⟩ a).setCell ⟨p, 1, none⟩ b).setCell ⟨p, 2, none⟩ c).cell? ⟨p, 2, none⟩ = some c := by
  have k0 := World.cell?_setCell_same w ⟨p, 0, none⟩ a h0
  have k1 : (w.setCell ⟨p, 0, none⟩ a).cell? ⟨p, 1, none⟩ = some y := (World.cell?_setCell_other _ _ _ _ (by simp)).trans h1
  have k2 : (w.setCell ⟨p, 0, none⟩ a).cell? ⟨p, 2, none⟩ = some z := (World.cell?_setCell_other _ _ _ _ (by simp)).trans h2
  refine ⟨?_, ?_, ?_⟩
  · rw [World.cell?_setCell_other _ _ _ _ (by simp), World.cell?_setCell_other _ _ _ _ (by simp)]; exact k0
  · rw [World.cell?_setCell_other _ _ _ _ (by simp)]; exact World.cell?_setCell_same _ _ _ k1
  · exact World.cell?_setCell_same _ _ _ ((World.cell?_setCell_other _ _ _ _ (by simp)).trans k2)
theorem foldS_bytes (l : List UInt8) : foldS (bytesV l) = bytesV (foldL l) := rfl
theorem folded_any (q r : Qs) (w : World) (hq : q.name.length ≤ maxLen) (hr : Hid (r = foldQ q)) :
    Calls Try.prog 35 #[.agg #[.string (bytesV q.name), .int .u16 (q.ty : Nat), .int .u16 (q.cl : Nat)]] w fun e w' => e = .returned (.agg #[.string (bytesV r.name), .int .u16 (r.ty : Nat), .int .u16 (r.cl : Nat)]) ∧ Chg [] w w' := by
  obtain ⟨nm, ty, cl⟩ := q
  simp only at hq
  have e := hr.out
  subst e
  obtain ⟨sx, hsx⟩ : ∃ sx, sx = bytesV nm := ⟨_, rfl⟩
  obtain ⟨tx, htx⟩ : ∃ tx, tx = bytesV (foldQ ⟨nm, ty, cl⟩).name := ⟨_, rfl⟩
  have hs : sx.size ≤ maxLen := by rw [hsx]; exact hq
  have ht : tx = foldS sx := by rw [htx, hsx]; rfl
  have e1 : (foldQ ⟨nm, ty, cl⟩).ty = ty := rfl
  have e2 : (foldQ ⟨nm, ty, cl⟩).cl = cl := rfl
  show Calls Try.prog 35 #[.agg #[.string (bytesV nm), .int .u16 (ty : Nat), .int .u16 (cl : Nat)]] w _
  rw [← hsx, ← htx, e1, e2]
  have HT := Lib.hid ht
  clear hsx htx ht hr hq
  obtain ⟨p0, hp0⟩ : ∃ p0, p0 = w.heap.size := ⟨_, rfl⟩
  obtain ⟨p1, hp1⟩ : ∃ p1, p1 = w.heap.size + 1 := ⟨_, rfl⟩
  go_enter Try.func35, Try.ntmps35
  go_wp2_with fail
  rw [← hp1, ← hp0]
  refine calls_abs ?_
  intro W hW
  have b0 : W.heap[p0]? = some (.cells #[.string sx, .int .u16 (ty : Nat), .int .u16 (cl : Nat)] 25 (0, 0)) := by rw [hW]; exact heap_old (heap_new' _ _ _ hp0)
  have b1 : W.heap[p1]? = some (.cells #[.string ⟨#[]⟩, .int .u16 0, .int .u16 0] 25 (0, 0)) := by rw [hW]; exact heap_new' _ _ _ (by rw [hp1]; simp)
  have hcW : Chg [] w W := by rw [hW]; exact ((Chg.refl _ _).alloc _).alloc _
  have hl0 : w.heap.size ≤ p0 := by omega
  have hl1 : w.heap.size ≤ p1 := by omega
  have hne : p0 ≠ p1 := by omega
  clear hW hp0 hp1
  refine (fold_any sx tx W hs HT).mono ?_
  rintro e w1 ⟨rfl, hc1⟩
  have b0' := hc1.keep b0 (by simp)
  have b1' := hc1.keep b1 (by simp)
  have hc := hcW.trans hc1
  have c0 := cell_of (i := 0) b0'
  have c1 : w1.cell? ⟨p0, 1, none⟩ = some (.int .u16 (ty : Nat)) := cell_of b0'
  have c2 : w1.cell? ⟨p0, 2, none⟩ = some (.int .u16 (cl : Nat)) := cell_of b0'
  have d0 : w1.cell? ⟨p1, 0, none⟩ = some (.string ⟨#[]⟩) := cell_of b1'
  have d1 : w1.cell? ⟨p1, 1, none⟩ = some (.int .u16 0) := cell_of b1'
  have d2 : w1.cell? ⟨p1, 2, none⟩ = some (.int .u16 0) := cell_of b1'
  have f0 : w1.frozen? ⟨p0, 0, none⟩ = false := free_of b0'
  have f1 : ∀ i, w1.frozen? ⟨p1, i, none⟩ = false := fun i => free_of b1'
  replace c0 : w1.cell? ⟨p0, 0, none⟩ = some (.string sx) := c0
  clear b0 b1 hcW hc1 b0' b1'
  have e0 : (w1.setCell ⟨p0, 0, none⟩ (.string tx)).cell? ⟨p1, 0, none⟩ = some (.string ⟨#[]⟩) := (World.cell?_setCell_other _ _ _ _ (by simp [hne])).trans d0
  have e1 : (w1.setCell ⟨p0, 0, none⟩ (.string tx)).cell? ⟨p1, 1, none⟩ = some (.int .u16 0) := (World.cell?_setCell_other _ _ _ _ (by simp [hne])).trans d1
  have e2 : (w1.setCell ⟨p0, 0, none⟩ (.string tx)).cell? ⟨p1, 2, none⟩ = some (.int .u16 0) := (World.cell?_setCell_other _ _ _ _ (by simp [hne])).trans d2
  have HM := Lib.hid (set3 (a := .string tx) (b := .int .u16 (ty : Nat)) (c := .int .u16 (cl : Nat)) e0 e1 e2)
  clear e0 e1 e2
  go_wp2
  obtain ⟨m0, m1, m2⟩ := HM.out
  refine bodyPost_ret (v := .agg #[.string tx, .int .u16 (ty : Nat), .int .u16 (cl : Nat)]) (by simp [results, Try.results35, go_sem, m0, m1, m2]) rfl ⟨rfl, (((hc.setCell (.inr hl0) _).setCell (.inr hl1) _).setCell (.inr hl1) _).setCell (.inr hl1) _⟩

/-- The slot of a question, and is there one? -/
def findAt (L : List Fl) (q : Qs) : Nat := if mayB q.name then (findF L (foldQ q)).getD 0 else 0
def findIs (L : List Fl) (q : Qs) : Bool := mayB q.name && (findF L (foldQ q)).isSome
theorem okQ_fold {q : Qs} (h : OkQ q) : OkQ (foldQ q) := ⟨by have := foldL_len q.name; show (foldL q.name).length ≤ maxLen; unfold maxLen; omega, h.ty, h.cl⟩
section
variable (F : List Nat) (tb n m : Nat) (L : List Fl) (w : World)
theorem find_nil (q : Qs) : Calls Try.prog 21 #[.pointer none, .agg #[.string (bytesV q.name), .int .u16 (q.ty : Nat), .int .u16 (q.cl : Nat)]] w fun e w' => e = .returned (.tuple #[.int .i64 0, .bool false]) ∧ Chg [] w w' := by
  go_enter Try.func21, Try.ntmps21
  go_wp2
  go_ret2
  exact ⟨rfl, (Chg.refl _ _).alloc _⟩
theorem find_any (q : Qs) (a : Nat) (b : Bool) (h : FT F w tb n m L) (hq : OkQ q) (ha : Hid (a = findAt L q)) (hb : Hid (b = findIs L q)) :
    Calls Try.prog 21 #[.pointer (some ⟨tb, 0, none⟩), .agg #[.string (bytesV q.name), .int .u16 (q.ty : Nat), .int .u16 (q.cl : Nat)]] w fun e w' => e = .returned (.tuple #[.int .i64 (a : Nat), .bool b]) ∧ Chg [] w w' := by
  obtain ⟨y, hy⟩ : ∃ y, y = mayB q.name := ⟨_, rfl⟩
  have hs : (bytesV q.name).size ≤ maxLen := hq.name
  obtain ⟨sx, hsx⟩ : ∃ sx, sx = bytesV q.name := ⟨_, rfl⟩
  have hmay : ∀ w, Calls Try.prog 34 #[.string sx] w fun e w' => e = .returned (.bool y) ∧ w = w' := fun w => may_any sx y w (by rw [hsx]; exact hs) (Lib.hid (by rw [hy, hsx]; rfl))
  obtain ⟨sb, mb, rv, es, cp, tl, h⟩ := h
  have hd := h.head
  have h3 := h.map
  have c3 : ∀ W, Chg [] w W → W.cell? ⟨tb, 3, none⟩ = some (.map (some mb)) := fun W hc => cell_of (hc.keep hd (by simp))
  obtain ⟨r, hr⟩ : ∃ r, r = foldQ q := ⟨_, rfl⟩
  have hok : OkQ r := by rw [hr]; exact okQ_fold hq
  have hlk : ∀ W, Chg [] w W → (Instr.lookup 66 (.map (some mb)) (qA r) true).run Try.prog W = .ok (.tuple #[.int .i64 (((findF L r).getD 0 : Nat) : Int), .bool (findF L r).isSome]) W := fun W hc => (h3.chg hc (by simp)).look hok
  have hfo : ∀ W, Calls Try.prog 35 #[.agg #[.string sx, .int .u16 (q.ty : Nat), .int .u16 (q.cl : Nat)]] W fun e w' => e = .returned (.agg #[.string (bytesV r.name), .int .u16 (r.ty : Nat), .int .u16 (r.cl : Nat)]) ∧ Chg [] W w' := fun W => by rw [hsx]; exact folded_any q r W hq.name (Lib.hid hr)
  have e1 : y = true → a = (findF L r).getD 0 ∧ b = (findF L r).isSome := by
    intro e
    rw [ha.out, hb.out, hr]
    unfold findAt findIs
    rw [← hy, e]
    exact ⟨rfl, rfl⟩
  have e2 : y = false → a = 0 ∧ b = false := by
    intro e
    rw [ha.out, hb.out]
    unfold findAt findIs
    rw [← hy, e]
    exact ⟨rfl, rfl⟩
  unfold qA at hlk
  rw [← hsx]
  clear ha hb hd h3 h hr hok hsx hs hy
  cases y with
  | false =>
    obtain ⟨rfl, rfl⟩ := e2 rfl
    clear e1 e2 hlk hfo c3
    go_enter Try.func21, Try.ntmps21
    go_wp2_with fail
    refine (hmay _).mono ?_
    rintro e w1 ⟨rfl, rfl⟩
    go_wp2
    go_ret2
    exact ⟨rfl, (Chg.refl _ _).alloc _⟩
  | true =>
    obtain ⟨e3, e4⟩ := e1 rfl
    rw [← e3, ← e4] at hlk
    clear e1 e2 e3 e4
    go_enter Try.func21, Try.ntmps21
    go_wp2_with fail
    obtain ⟨p0, hp0⟩ : ∃ p0, p0 = w.heap.size := ⟨_, rfl⟩
    rw [← hp0]
    refine calls_abs ?_
    intro W hW
    have b0 : W.heap[p0]? = some (.cells #[.string sx, .int .u16 (q.ty : Nat), .int .u16 (q.cl : Nat)] 25 (0, 0)) := by rw [hW]; exact heap_new' _ _ _ hp0
    have hcW : Chg [] w W := by rw [hW]; exact (Chg.refl _ _).alloc _
    have l0 : W.cell? ⟨p0, 0, none⟩ = some (.string sx) := cell_of b0
    have l1 : W.cell? ⟨p0, 1, none⟩ = some (.int .u16 (q.ty : Nat)) := cell_of b0
    have l2 : W.cell? ⟨p0, 2, none⟩ = some (.int .u16 (q.cl : Nat)) := cell_of b0
    have l3 := c3 W hcW
    have hc3 : ∀ w', Chg [] W w' → w'.cell? ⟨tb, 3, none⟩ = some (.map (some mb)) := fun w' hc => c3 w' (hcW.trans hc)
    have hlk2 := fun w' (hc : Chg [] W w') => hlk w' (hcW.trans hc)
    have HCW := Lib.hid hcW
    clear hW hp0 b0 c3 hlk hcW
    refine (hmay _).mono ?_
    rintro e w1 ⟨rfl, rfl⟩
    clear hmay
    go_wp2_with fail
    go_region_with ((go_at_call 35; refine (hfo _).mono ?_; rintro e9 w5 ⟨rfl, hc5⟩; replace hc5 := hc5.undrew; have k5 := hc3 w5 hc5; have k6 := hlk2 w5 hc5))
    all_goals
      go_wp2
      go_ret2
      exact ⟨rfl, HCW.out.trans hc5⟩
theorem len_any (k : Nat) (h : FT F w tb n m L) (hk : Hid (k = L.length)) :
    Calls Try.prog 26 #[.pointer (some ⟨tb, 0, none⟩)] w fun e w' => e = .returned (.int .i64 (k : Nat)) ∧ w = w' := by
  obtain ⟨sb, mb, rv, es, cp, tl, h⟩ := h
  obtain ⟨ra, rc, hrv⟩ := h.row.len
  have c2 : w.cell? ⟨tb, 2, none⟩ = some rv := cell_of h.head
  rw [hrv] at c2
  have e1 : (slotsF L).length = k := by rw [hk.out]; simp [slotsF]
  rw [e1] at c2
  clear hrv e1 h hk
  go_enter Try.func26, Try.ntmps26
  go_wp2
  go_ret
  exact ⟨rfl, rfl⟩
theorem len_nil : Calls Try.prog 26 #[.pointer none] w fun e w' => e = .returned (.int .i64 0) ∧ w = w' := by
  go_enter Try.func26, Try.ntmps26
  go_wp2
  go_ret
  exact ⟨rfl, rfl⟩
theorem waits_no (p : Option Addr) (s : Int) (hhas : Calls Try.prog 36 #[.pointer p, .int .i64 s] w fun e w' => e = .returned (.bool false) ∧ w = w') :
    Calls Try.prog 20 #[.pointer p, .int .i64 s] w fun e w' => e = .returned (.int .i64 0) ∧ w = w' := by
  go_enter Try.func20, Try.ntmps20
  go_wp2_with fail
  refine hhas.mono ?_
  rintro e w1 ⟨rfl, rfl⟩
  go_wp2
  go_ret
  exact ⟨rfl, rfl⟩
/-- How many wait at a slot. -/
def waitsF (L : List Fl) (s : Int) : Nat := if useF L s then (wsF L s.toNat).length else 0
theorem use_cast {L : List Fl} {s : Int} (h : useF L s = true) : ∃ k : Nat, s = k ∧ usedF L k = true := by
  unfold useF at h
  rw [Bool.and_eq_true, decide_eq_true_eq] at h
  exact ⟨s.toNat, by omega, h.2⟩
theorem used_lt {F : List Nat} {w : World} {tb n m : Nat} {L : List Fl} (h : FT F w tb n m L) {k : Nat} (hu : usedF L k = true) : k < n := by
  obtain ⟨f, hf, e⟩ := usedF_iff.1 hu
  have := h.ok.low f hf
  omega
theorem waits_any (s : Int) (k : Nat) (h : FT F w tb n m L) (hk : Hid (k = waitsF L s)) :
    Calls Try.prog 20 #[.pointer (some ⟨tb, 0, none⟩), .int .i64 s] w fun e w' => e = .returned (.int .i64 (k : Nat)) ∧ w = w' := by
  obtain ⟨b, hb⟩ : ∃ b, b = useF L s := ⟨_, rfl⟩
  have hhas := has_any F tb n m L w s b h (Lib.hid hb)
  cases b with
  | false =>
    have : k = 0 := by rw [hk.out]; unfold waitsF; rw [← hb]; rfl
    subst this
    exact waits_no w _ s hhas
  | true =>
    obtain ⟨i, rfl, hu⟩ := use_cast hb.symm
    have hin := used_lt h hu
    have hk2 : (wsF L i).length = k := by rw [hk.out]; unfold waitsF; rw [← hb]; simp
    obtain ⟨sb, mb, rv, es, cp, tl, h⟩ := h
    obtain ⟨v, d0, d1, d2, d3, d4, hw⟩ := h.cells hin
    obtain ⟨va, vc, rfl⟩ := hw.len
    rw [hk2] at d4
    have c1 : w.cell? ⟨tb, 1, none⟩ = some (.slice (some ⟨sb, 0, none⟩) n cp) := cell_of h.head
    have h32 := h.n32
    clear h hb hu hk hk2 hw d0 d1 d2 d3
    go_enter Try.func20, Try.ntmps20
    go_wp2_with fail
    refine hhas.mono ?_
    rintro e w1 ⟨rfl, rfl⟩
    go_wp2
    go_ret
    exact ⟨rfl, rfl⟩
theorem quest_no (p : Option Addr) (s : Int) (hhas : ∀ w', Chg [] w w' → Calls Try.prog 36 #[.pointer p, .int .i64 s] w' fun e w2 => e = .returned (.bool false) ∧ w' = w2) :
    Calls Try.prog 19 #[.pointer p, .int .i64 s] w fun e w' => e = .returned (.tuple #[.agg #[.string ⟨#[]⟩, .int .u16 0, .int .u16 0], .bool false]) ∧ Chg [] w w' := by
  obtain ⟨p0, hp0⟩ : ∃ p0, p0 = w.heap.size := ⟨_, rfl⟩
  go_enter Try.func19, Try.ntmps19
  go_wp2_with fail
  rw [← hp0]
  refine calls_abs ?_
  intro W hW
  have b0 : W.heap[p0]? = some (.cells #[.string ⟨#[]⟩, .int .u16 0, .int .u16 0] 25 (0, 0)) := by rw [hW]; exact heap_new' _ _ _ hp0
  have hcW : Chg [] w W := by rw [hW]; exact (Chg.refl _ _).alloc _
  have m0 : W.cell? ⟨p0, 0, none⟩ = some (.string ⟨#[]⟩) := cell_of b0
  have m1 : W.cell? ⟨p0, 1, none⟩ = some (.int .u16 0) := cell_of b0
  have m2 : W.cell? ⟨p0, 2, none⟩ = some (.int .u16 0) := cell_of b0
  have f0 : ∀ i, W.frozen? ⟨p0, i, none⟩ = false := fun i => free_of b0
  have hl0 : w.heap.size ≤ p0 := by omega
  have HM := Lib.hid (set3 (a := .string ⟨#[]⟩) (b := .int .u16 0) (c := .int .u16 0) m0 m1 m2)
  clear hW hp0 b0
  refine (hhas _ hcW).mono ?_
  rintro e w1 ⟨rfl, rfl⟩
  go_wp2
  obtain ⟨m0, m1, m2⟩ := HM.out
  refine bodyPost_ret (v := .tuple #[.agg #[.string ⟨#[]⟩, .int .u16 0, .int .u16 0], .bool false]) (by simp [results, Try.results19, go_sem, m0, m1, m2]) rfl ⟨rfl, ((hcW.setCell (.inr hl0) _).setCell (.inr hl0) _).setCell (.inr hl0) _⟩
/-- The question of a slot. -/
def questF (L : List Fl) (s : Int) : Qs := if useF L s then qsF L s.toNat else q0
theorem quest_any (s : Int) (q : Qs) (b : Bool) (h : FT F w tb n m L) (hq : Hid (q = questF L s)) (hb : Hid (b = useF L s)) :
    Calls Try.prog 19 #[.pointer (some ⟨tb, 0, none⟩), .int .i64 s] w fun e w' => e = .returned (.tuple #[.agg #[.string (bytesV q.name), .int .u16 (q.ty : Nat), .int .u16 (q.cl : Nat)], .bool b]) ∧ Chg [] w w' := by
  have hhas := fun w' (hc : Chg [] w w') => has_any F tb n m L w' s b (h.same hc) hb
  cases b with
  | false =>
    have : q = q0 := by rw [hq.out]; unfold questF; rw [← hb.out]; rfl
    subst this
    exact quest_no w _ s hhas
  | true =>
    obtain ⟨i, rfl, hu⟩ := use_cast hb.out.symm
    have hin := used_lt h hu
    have hk2 : qsF L i = q := by rw [hq.out]; unfold questF; rw [← hb.out]; simp
    obtain ⟨sb, mb, rv, es, cp, tl, h⟩ := h
    obtain ⟨v, d0, d1, d2, d3, d4, hw⟩ := h.cells hin
    rw [hk2] at d1 d2 d3
    have c1 : w.cell? ⟨tb, 1, none⟩ = some (.slice (some ⟨sb, 0, none⟩) n cp) := cell_of h.head
    have h32 := h.n32
    clear h hb hu hq hk2 hw d0 d4
    obtain ⟨p0, hp0⟩ : ∃ p0, p0 = w.heap.size := ⟨_, rfl⟩
    go_enter Try.func19, Try.ntmps19
    go_wp2_with fail
    rw [← hp0]
    refine calls_abs ?_
    intro W hW
    have b0 : W.heap[p0]? = some (.cells #[.string ⟨#[]⟩, .int .u16 0, .int .u16 0] 25 (0, 0)) := by rw [hW]; exact heap_new' _ _ _ hp0
    have hcW : Chg [] w W := by rw [hW]; exact (Chg.refl _ _).alloc _
    have m0 : W.cell? ⟨p0, 0, none⟩ = some (.string ⟨#[]⟩) := cell_of b0
    have m1 : W.cell? ⟨p0, 1, none⟩ = some (.int .u16 0) := cell_of b0
    have m2 : W.cell? ⟨p0, 2, none⟩ = some (.int .u16 0) := cell_of b0
    have f0 : ∀ i, W.frozen? ⟨p0, i, none⟩ = false := fun i => free_of b0
    have hl0 : w.heap.size ≤ p0 := by omega
    replace c1 := hcW.cell c1 (by simp)
    replace d1 := hcW.cell d1 (by simp)
    replace d2 := hcW.cell d2 (by simp)
    replace d3 := hcW.cell d3 (by simp)
    have HM := Lib.hid (set3 (a := .string (bytesV q.name)) (b := .int .u16 (q.ty : Nat)) (c := .int .u16 (q.cl : Nat)) m0 m1 m2)
    clear hW hp0 b0
    refine (hhas _ hcW).mono ?_
    rintro e w1 ⟨rfl, rfl⟩
    go_wp2
    obtain ⟨m0, m1, m2⟩ := HM.out
    refine bodyPost_ret (v := .tuple #[.agg #[.string (bytesV q.name), .int .u16 (q.ty : Nat), .int .u16 (q.cl : Nat)], .bool true]) (by simp [results, Try.results19, go_sem, m0, m1, m2]) rfl ⟨rfl, ((hcW.setCell (.inr hl0) _).setCell (.inr hl0) _).setCell (.inr hl0) _⟩
end

end Go.Proofs.Ytopkbchjlifflaa
