/- For FlightPlays: names that are no longer than a statement goes over; the table and the document's, side by side. -/
import Derived.Test.YtopkbchjlifflaaFlY
namespace Go.Proofs.Ytopkbchjlifflaa
open Go.RowKit Go.Maps

def LongN (acts : List ActT) (v i : Value) : Prop := ∃ j n : Nat, j ≤ acts.length ∧ i = .int .i64 (j : Nat) ∧ v = .int .i64 (n : Nat) ∧ Hid (n ≤ 100000) ∧ Hid (∀ k (h : k < acts.length), k < j → min 8000 acts[k].q.name.length ≤ n)
theorem long_names (a : Option Addr) (cap : Nat) (acts : List ActT) (w : World) (h : IsActs w a acts) :
    Calls Try.prog 9 #[.slice a acts.length cap] w fun e w' => ∃ b, e = .returned (.bool b) ∧ (b = false → ∀ k (h : k < acts.length), acts[k].q.name.length ≤ 8000) ∧ Chg [] w w' := by
  have hmax := h.1
  unfold maxLen at hmax
  have H := Lib.hid h.2
  clear h
  go_enter Try.func9, Try.ntmps9
  go_wp2_with fail
  go_loopw [3, 4] (fun v i wr => LongN acts v i ∧ Chg [] w wr) (fun _ i _ => acts.length - (intOf i).toNat)
  case atStart => exact ⟨⟨0, 0, Nat.zero_le _, rfl, rfl, Lib.hid (by omega), Lib.hid (by intro k _ hk; omega)⟩, Chg.refl _ _⟩
  case round =>
    obtain ⟨⟨j, n, hj, rfl, rfl, HN, HALL⟩, hck⟩ := hrel
    by_cases hlt : j < acts.length
    · by_cases hn8 : n < 8000
      · have t1 : decide ((n : Int) < 8000) = true := by simp; omega
        have t1n : decide (n < 8000) = true := by simpa using hn8
        have HN8 := Lib.hid hn8
        clear hn8
        obtain ⟨b, o, ha, _, hc, hok⟩ := H.out j hlt
        subst ha
        have d1 := hck.cell (hc 1 _ rfl) (by simp)
        have d6 := hck.cell (hc 6 _ rfl) (by simp)
        obtain ⟨s1, hs1⟩ : ∃ s1, s1 = bytesV acts[j].q.name := ⟨_, rfl⟩
        obtain ⟨s2, hs2⟩ : ∃ s2, s2 = bytesV acts[j].x.data := ⟨_, rfl⟩
        have l1 : s1.size ≤ maxLen := by rw [hs1]; exact hok.q.name
        have l2 : s2.size ≤ maxLen := by rw [hs2]; exact hok.x.data
        have hss : s1.size = acts[j].q.name.length := by rw [hs1]; rfl
        unfold maxLen at l1 l2
        rw [← hs1] at d1
        rw [← hs2] at d6
        rw [← Nat.add_assoc] at d1 d6
        have HSS := Lib.hid hss
        clear hs1 hs2 hc hok hss
        go_wp2_with fail
        go_quiet (fail)
        go_wp2
        have hn8 := HN8.out
        have e1 : wrap64 ((n : Int) + 20) = (n : Int) + 20 := IntWalk.wrap64_in _ (by omega)
        have e2 : wrap64 ((n : Int) + 20 + min 8000 (s1.size : Int)) = (n : Int) + 20 + min 8000 (s1.size : Int) := IntWalk.wrap64_in _ (by omega)
        have e3 : wrap64 ((n : Int) + 20 + min 8000 (s1.size : Int) + min 8000 (s2.size : Int) / 10) = (n : Int) + 20 + min 8000 (s1.size : Int) + min 8000 (s2.size : Int) / 10 := IntWalk.wrap64_in _ (by omega)
        rw [e1, e2, e3]
        refine ⟨⟨⟨j + 1, n + 20 + min 8000 s1.size + min 8000 s2.size / 10, by omega, by go_num, ?_, Lib.hid (by omega), Lib.hid ?_⟩, hck.drewN _⟩, by simp [intOf]; omega⟩
        · exact congrArg (Value.int .i64) (by omega)
        · intro k hk hkj
          by_cases e : k < j
          · have := HALL.out k hk e
            omega
          · obtain rfl : k = j := by omega
            have := HSS.out
            omega
      · have t1 : decide ((n : Int) < 8000) = false := by simp; omega
        have t1n : decide (n < 8000) = false := by simpa using hn8
        have t2 : decide (8000 ≤ n) = true := by simp; omega
        have t2I : decide ((8000 : Int) ≤ (n : Int)) = true := by simp; omega
        have HN8 := Lib.hid hn8
        clear hn8
        go_wp2
        go_ret
        exact ⟨true, rfl, (fun h => by cases h), hck⟩
    · have t0 : decide (j < acts.length) = false := by simpa using hlt
      obtain ⟨b, hb⟩ : ∃ b, b = decide (8000 ≤ n) := ⟨_, rfl⟩
      have t2 : decide (8000 ≤ n) = b := hb.symm
      have t2I : decide ((8000 : Int) ≤ (n : Int)) = b := by rw [hb]; exact decide_eq_decide.2 (by omega)
      have HB := Lib.hid hb
      clear hb
      go_wp2
      go_ret
      refine ⟨b, rfl, fun h k hk => ?_, hck⟩
      have h1 := HB.out
      rw [h] at h1
      have h2 : ¬ 8000 ≤ n := by simpa using h1.symm
      have := HALL.out k hk (by omega)
      omega
/-- The table t at L and the document's x at M, of blocks of their own that lie apart; blocks that stay (P). -/
structure PlS (F G : List Nat) (P : List (Nat × Obj)) (w wr : World) (t x n m : Nat) (L M : List Fl) : Prop where
  ft : FT F wr t n m L
  rt : RT G wr x n m M
  lf : ∀ y ∈ F, w.heap.size ≤ y
  lg : ∀ y ∈ G, w.heap.size ≤ y
  dj : ∀ y ∈ F, y ∉ G
  pl : ∀ p ∈ P, wr.heap[p.1]? = some p.2
  pf : ∀ p ∈ P, p.1 ∉ F
  pg : ∀ p ∈ P, p.1 ∉ G
  chg : Chg [] w wr
def Pl (P : List (Nat × Obj)) (w wr : World) (t x n m : Nat) (L M : List Fl) : Prop := ∃ F G, PlS F G P w wr t x n m L M
section
variable {F G : List Nat} {P : List (Nat × Obj)} {w wr w2 : World} {t t' x x' n m : Nat} {L L2 M M2 : List Fl}
theorem PlS.stepT (h : PlS F G P w wr t x n m L M) (k : FNext F wr w2 t' n m L2) : Pl P w w2 t' x n m L2 M := by
  obtain ⟨F2, k1, k2, k3⟩ := k
  have hg := h.rt.lt
  refine ⟨F2, G, k1, h.rt.chg k2 (fun y hy hh => h.dj y hh hy), fun y hy => ?_, h.lg, fun y hy hh => ?_, fun p hp => k2.keep (h.pl p hp) (h.pf p hp), fun p hp hh => ?_, h.pg, h.chg.trans_new k2 (fun y hy => .inr (h.lf y hy))⟩
  · rcases k3 y hy with e | e
    · exact h.lf y e
    · exact Nat.le_trans h.chg.size e
  · rcases k3 y hy with e | e
    · exact h.dj y e hh
    · have := hg y hh; omega
  · rcases k3 _ hh with e | e
    · exact h.pf p hp e
    · have := lt_of_block (h.pl p hp); omega
theorem PlS.stepX (h : PlS F G P w wr t x n m L M) (k : RNext G wr w2 x' n m M2) : Pl P w w2 t x' n m L M2 := by
  obtain ⟨G2, k1, k2, k3⟩ := k
  have hf := h.ft.lt
  refine ⟨F, G2, h.ft.chg k2 h.dj, k1, h.lf, fun y hy => ?_, fun y hy hh => ?_, fun p hp => k2.keep (h.pl p hp) (h.pg p hp), h.pf, fun p hp hh => ?_, h.chg.trans_new k2 (fun y hy => .inr (h.lg y hy))⟩
  · rcases k3 y hy with e | e
    · exact h.lg y e
    · exact Nat.le_trans h.chg.size e
  · rcases k3 y hh with e | e
    · exact h.dj y hy e
    · have := hf y hy; omega
  · rcases k3 _ hh with e | e
    · exact h.pg p hp e
    · have := lt_of_block (h.pl p hp); omega
theorem Pl.same (h : Pl P w wr t x n m L M) (hc : Chg [] wr w2) : Pl P w w2 t x n m L M := by
  obtain ⟨F, G, h⟩ := h
  exact ⟨F, G, h.ft.same hc, h.rt.same hc, h.lf, h.lg, h.dj, fun p hp => hc.keep (h.pl p hp) (by simp), h.pf, h.pg, h.chg.trans hc⟩
theorem Pl.add (h : Pl P w wr t x n m L M) (hc : Chg [] wr w2) {b : Nat} {o : Obj} (hb : w2.heap[b]? = some o) (hge : wr.heap.size ≤ b) : Pl ((b, o) :: P) w w2 t x n m L M := by
  obtain ⟨F, G, h⟩ := h
  refine ⟨F, G, h.ft.same hc, h.rt.same hc, h.lf, h.lg, h.dj, fun p hp => ?_, fun p hp => ?_, fun p hp => ?_, h.chg.trans hc⟩
  · rcases List.mem_cons.1 hp with rfl | hp
    · exact hb
    · exact hc.keep (h.pl p hp) (by simp)
  · rcases List.mem_cons.1 hp with rfl | hp
    · intro hh
      have := h.ft.lt _ hh
      simp only at this
      omega
    · exact h.pf p hp
  · rcases List.mem_cons.1 hp with rfl | hp
    · intro hh
      have := h.rt.lt _ hh
      simp only at this
      omega
    · exact h.pg p hp
theorem Pl.drop (h : Pl P w wr t x n m L M) : Pl [] w wr t x n m L M := by
  obtain ⟨F, G, h⟩ := h
  exact ⟨F, G, h.ft, h.rt, h.lf, h.lg, h.dj, by simp, by simp, by simp, h.chg⟩
theorem Pl.isChg (h : Pl P w wr t x n m L M) : Chg [] w wr := by obtain ⟨_, _, h⟩ := h; exact h.chg
theorem Pl.at' (h : Pl P w wr t x n m L M) {p : Nat × Obj} (hp : p ∈ P) : wr.heap[p.1]? = some p.2 := by obtain ⟨_, _, h⟩ := h; exact h.pl p hp
theorem FNext.next {F F1 : List Nat} {w w1 w2 : World} {tb n m : Nat} {L2 : List Fl} (c1 : Chg F w w1) (s1 : ∀ y ∈ F1, y ∈ F ∨ w.heap.size ≤ y) (h2 : FNext F1 w1 w2 tb n m L2) : FNext F w w2 tb n m L2 := by
  obtain ⟨F2, t2, c2, s2⟩ := h2
  refine ⟨F2, t2, c1.trans_new c2 s1, fun y hy => ?_⟩
  rcases s2 y hy with e | e
  · exact s1 y e
  · exact .inr (Nat.le_trans c1.size e)
end
section
variable {P : List (Nat × Obj)} {w wr : World} {t x n m : Nat} {L M : List Fl} (h : Pl P w wr t x n m L M)
include h
theorem begin_pl (q : Qs) (r e : Nat) (L' : List Fl) (hq : OkQ q) (hr : beginF L n q = (L', r, e)) :
    Calls Try.prog 12 #[.pointer (some ⟨t, 0, none⟩), .agg #[.string (bytesV q.name), .int .u16 (q.ty : Nat), .int .u16 (q.cl : Nat)]] wr fun z w' => z = .returned (.tuple #[.int .i64 (r : Nat), .int .i64 (e : Nat)]) ∧ Pl P w w' t x n m L' M := by
  obtain ⟨F, G, h⟩ := h
  refine (begin_any F t n m L wr q r e L' h.ft hq (Lib.hid hr)).mono ?_
  rintro z w' ⟨rfl, hN⟩
  exact ⟨rfl, h.stepT hN⟩
theorem rbegin_pl (q : Qs) (r e : Nat) (L' : List Fl) (hq : OkQ q) (hql : q.name.length ≤ 100000) (hr : beginF M n q = (L', r, e)) :
    Calls Try.prog 28 #[.pointer (some ⟨x, 0, none⟩), .agg #[.string (bytesV q.name), .int .u16 (q.ty : Nat), .int .u16 (q.cl : Nat)]] wr fun z w' => z = .returned (.tuple #[.int .i64 (r : Nat), .int .i64 (e : Nat)]) ∧ Pl P w w' t x n m L L' := by
  obtain ⟨F, G, h⟩ := h
  refine (rbegin_any G x n m M wr q r e L' h.rt hq hql (Lib.hid hr)).mono ?_
  rintro z w' ⟨rfl, hN⟩
  exact ⟨rfl, h.stepX hN⟩
theorem join_pl (s : Int) (y : Wt) (e : Nat) (L' : List Fl) (hr : joinF L m s y = (L', e)) :
    Calls Try.prog 13 #[.pointer (some ⟨t, 0, none⟩), .int .i64 s, .agg #[.int .i64 y.who, .string (bytesV y.data)]] wr fun z w' => z = .returned (.int .i64 (e : Nat)) ∧ Pl P w w' t x n m L' M := by
  obtain ⟨F, G, h⟩ := h
  refine (join_any F t n m L wr s y e L' h.ft (Lib.hid hr)).mono ?_
  rintro z w' ⟨rfl, hN⟩
  exact ⟨rfl, h.stepT hN⟩
theorem rjoin_pl (s : Int) (y : Wt) (e : Nat) (L' : List Fl) (hr : joinF M m s y = (L', e)) :
    Calls Try.prog 29 #[.pointer (some ⟨x, 0, none⟩), .int .i64 s, .agg #[.int .i64 y.who, .string (bytesV y.data)]] wr fun z w' => z = .returned (.int .i64 (e : Nat)) ∧ Pl P w w' t x n m L L' := by
  obtain ⟨F, G, h⟩ := h
  refine (rjoin_any G x n m M wr s y e L' h.rt (Lib.hid hr)).mono ?_
  rintro z w' ⟨rfl, hN⟩
  exact ⟨rfl, h.stepX hN⟩
theorem rcopy_pl : Calls Try.prog 31 #[.pointer (some ⟨x, 0, none⟩)] wr fun z w' => ∃ x', z = .returned (.pointer (some ⟨x', 0, none⟩)) ∧ Pl P w w' t x' n m L M := by
  obtain ⟨F, G, h⟩ := h
  refine (rcopy_any G x n m M wr h.rt).mono ?_
  rintro z w' ⟨x', rfl, hN, _⟩
  exact ⟨x', rfl, h.stepX hN⟩
end

end Go.Proofs.Ytopkbchjlifflaa
