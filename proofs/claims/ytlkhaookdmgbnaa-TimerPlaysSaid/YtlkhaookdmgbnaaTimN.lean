/- The library's Push and Remove. -/
import Derived.Test.YtlkhaookdmgbnaaTimL
namespace Go.Proofs.Ytlkhaookdmgbnaa
open Go.RowKit

theorem heap_snoc {Q : List (It × Nat)} {n : Nat} {x : It × Nat} (h : HeapN (itsQ Q) n) (hn : n = Q.length) : UpN (itsQ (Q ++ [x])) (n + 1) n := by
  have e : ∀ k, k < n → (itsQ (Q ++ [x])).getD k itZ = (itsQ Q).getD k itZ := by
    intro k hk
    have h1 : k < Q.length := by omega
    have h2 : k < (Q ++ [x]).length := by simp; omega
    rw [itsQ_get h1, itsQ_get h2, List.getElem_append_left h1]
  constructor
  · intro i h0 hi hne
    rw [e i (by omega), e _ (by omega)]
    exact h i h0 (by omega)
  · intro c h0 hc hcn
    omega
/-- What the library's 'Push' leaves behind. -/
def PutPost (w : World) (tb g n p : Nat) (mv : Value) (x : It) (Q : List (It × Nat)) (F : List Nat) (w' : World) : Prop :=
  ∃ qb cap R, HeadAt w' tb mv (.slice (some ⟨qb, 0, none⟩) (n + 1) cap) p ∧ n + 1 ≤ cap ∧ cap ≤ maxLen ∧ QAt w' qb cap R ∧ R.Perm (Q ++ [(x, g)]) ∧ HeapN (itsQ R) (n + 1) ∧ (∀ y ∈ blksQ qb R, y ∈ g :: F ∨ w.heap.size ≤ y) ∧ Chg (tb :: g :: F) w w'

set_option maxRecDepth 100000 in
set_option maxHeartbeats 2000000 in
theorem hpush_any (tb g n c p k : Nat) (mv : Value) (a : Option Addr) (x : It) (Q : List (It × Nat)) (F : List Nat) (w : World) (h : QS w a n c Q F) (hH : HeapN (itsQ Q) n) (hh : HeadAt w tb mv (.slice a n c) p) (hi : ItemAt w g x k) (htF : tb ∉ F) (hgF : g ∉ F) (htg : tb ≠ g) (hlen : n < 1000000000) :
    Calls Try.prog 29 #[qI tb, .iface 64 (.pointer (some ⟨g, 0, none⟩))] w fun e w' => e = .returned (.tuple #[]) ∧ PutPost w tb g n p mv x Q F w' := by
  have HALL := Lib.hid (And.intro h (And.intro hH (And.intro hh (And.intro hi (And.intro htF hgF)))))
  have hlt := hh.lt
  have m1 := m_push ⟨tb, 1, none⟩ w
  clear h hH hh hi htF hgF
  go_enter Try.func29, Try.ntmps29
  unfold qI
  go_wp2_with fail
  obtain ⟨h, hH, hh, hi, htF, hgF⟩ := HALL.out
  refine (qpush_any tb g n c p k mv a x Q F w h hh hi htF hgF htg (by omega)).mono ?_
  have HH := Lib.hid (heap_snoc (x := (x, g)) hH h.1)
  have HN := Lib.hid h.1
  clear h hH hh hi HALL
  rintro e w1 ⟨rfl, qb, cap, k1, k2, k3, k4, k5, k6⟩
  have hne : tb ∉ blksQ qb (Q ++ [(x, g)]) := by
    intro hx
    rcases k5 tb hx with e | e
    · simp [htg, htF] at e
    · omega
  have HK := Lib.hid (And.intro k1 (And.intro k2 (And.intro k3 (And.intro k5 k6))))
  have hq : QH w1 tb qb cap (Q ++ [(x, g)]) := ⟨by have := k1.c1; rw [List.length_append, ← HN.out]; exact this, k4, hne⟩
  have m2 := m_len _ _ _ k1.c1
  have e1 : ((n + 1 : Nat) : Int) - 1 = (n : Int) := by omega
  have e2 : (n : Int) + 1 - 1 = (n : Int) := by omega
  clear m1 k1 k2 k3 k4 k5 k6 htF hgF
  go_wp2_with fail
  refine (qlen_any _ _ _ _).mono ?_
  rintro e w2 ⟨rfl, rfl⟩
  clear m2
  go_wp2_with fail
  refine (up_any tb qb cap (n + 1) n (Q ++ [(x, g)]) _ hq (by have := HN.out; simp; omega) (by omega) HH.out (by have := HN.out; simp; omega)).mono ?_
  rintro e w3 ⟨rfl, R, r1, r2, r3, r4, r5⟩
  have HP : Hid (PutPost w tb g n p mv x Q F w3) := Lib.hid (by
    obtain ⟨k1, k2, k3, k5, k6⟩ := HK.out
    refine ⟨qb, cap, R, k1.chg r5 hne, k2, k3, r1.q, r2, r3, fun y hy => k5 y ((blks_perm r2 y).1 hy), ?_⟩
    exact k6.trans_new r5 fun y hy => (k5 y hy).imp (List.mem_cons_of_mem _) id)
  clear r1 r2 r3 r4 r5
  go_wp2
  go_end0
  exact ⟨rfl, HP.out⟩

/-- A thing at i is another one now; nothing else below n is. -/
theorem heap_changed_below {l m : List It} {n i : Nat} (h : HeapN l n) (hne : ∀ k, k ≠ i → k < n → m.getD k itZ = l.getD k itZ) (hin : i < n) : DownW m n i := by
  constructor
  · intro c h0 hc h1 h2
    rw [hne _ h1 (by omega), hne _ h2 hc]
    exact h c h0 hc
  · intro c h0 hc h1 h2
    rw [hne _ (by omega) (by omega), hne c (by omega) hc]
    have a := h c h0 hc
    rw [h1] at a
    exact leI_trans (h i h2 hin) a
/-- What the library's 'Remove' leaves behind. -/
def RemPost (w : World) (tb qb cap m p : Nat) (mv : Value) (x : It × Nat) (Q : List (It × Nat)) (w' : World) : Prop :=
  ∃ R, HeadAt w' tb mv (.slice (some ⟨qb, 0, none⟩) m cap) p ∧ m = R.length ∧ QAt w' qb cap R ∧ (R ++ [x]).Perm Q ∧ HeapN (itsQ R) m ∧ Chg (tb :: blksQ qb Q) w w'
theorem heap_take {R : List (It × Nat)} {m : Nat} (h : HeapN (itsQ R) m) (hm : m ≤ R.length) : HeapN (itsQ (R.take m)) m := by
  intro i h0 hi
  have e : ∀ k, k < m → (itsQ (R.take m)).getD k itZ = (itsQ R).getD k itZ := by
    intro k hk
    have h2 : k < (R.take m).length := by simp; omega
    rw [itsQ_get (by omega : k < R.length), itsQ_get h2, List.getElem_take]
  rw [e i hi, e _ (by omega)]
  exact h i h0 hi
theorem rem_post {w w1 w2 : World} {tb qb cap n m p : Nat} {mv : Value} {x : It × Nat} {Q R : List (It × Nat)} (hn : n = Q.length) (hm : n = m + 1) (hp : R.Perm Q) (hx : R.getD m (itZ, 0) = x) (hH : HeapN (itsQ R) m)
    (hc : Chg (blksQ qb Q) w w1) (h1 : HeadAt w2 tb mv (.slice (some ⟨qb, 0, none⟩) m cap) p) (h2 : QAt w2 qb cap (R.take m)) (h3 : Chg (tb :: blksQ qb R) w1 w2) : RemPost w tb qb cap m p mv x Q w2 := by
  have hl : R.length = m + 1 := by rw [hp.length_eq]; omega
  refine ⟨R.take m, h1, by simp; omega, h2, ?_, heap_take hH (by omega), ?_⟩
  · have e : R.take m ++ [x] = R := by
      have : x = R[m]'(by omega) := by rw [← hx]; simp [hl]
      rw [this, List.take_append_getElem (by omega)]
      rw [List.take_of_length_le (by omega)]
    rw [e]; exact hp
  · refine (hc.mono fun y hy => List.mem_cons_of_mem _ hy).trans (h3.mono ?_)
    intro y hy
    rcases List.mem_cons.1 hy with e | e
    · simp [e]
    · exact List.mem_cons_of_mem _ ((blks_perm hp y).1 e)

set_option maxRecDepth 100000 in
set_option maxHeartbeats 4000000 in
theorem hremove_any (tb qb cap n m p i : Nat) (mv : Value) (Q : List (It × Nat)) (w : World) (h : QAt w qb cap Q) (hne : tb ∉ blksQ qb Q) (hh : HeadAt w tb mv (.slice (some ⟨qb, 0, none⟩) n cap) p) (hH : HeapN (itsQ Q) n) (hn : Hid (n = Q.length)) (hm : n = m + 1) (hcap : n ≤ cap) (hlen : n ≤ 1000000000) (hi : i < n) :
    Calls Try.prog 30 #[qI tb, .int .i64 i] w fun e w' => (∃ v, e = .returned v) ∧ RemPost w tb qb cap m p mv (Q.getD i (itZ, 0)) Q w' := by
  have HM := Lib.hid hm
  have HH := Lib.hid hH
  have m1 := m_len _ _ _ hh.c1
  have e1 : (n : Int) - 1 = (m : Int) := by omega
  have hmn : m < n := by omega
  have mI : (m : Int) ≤ 1000000000 := by omega
  clear hm hH
  by_cases hil : i = m
  · subst hil
    have t1 : ((i : Int) != (i : Int)) = false := by simp
    have HL : Hid (HeapN (itsQ Q) i) := Lib.hid (fun k h0 hk => HH.out k h0 (by omega))
    go_enter Try.func30, Try.ntmps30
    unfold qI
    go_wp2_with fail
    refine (qlen_any _ _ _ _).mono ?_
    rintro e w2 ⟨rfl, rfl⟩
    have m2 := m_pop ⟨tb, 1, none⟩ w
    clear m1
    go_wp2_with fail
    refine (pop_any tb qb cap n i p mv Q w h hne hh hn HM.out hcap hlen).mono ?_
    rintro e w3 ⟨⟨v, rfl⟩, k1, k2, k3⟩
    have HP : Hid (RemPost w tb qb cap i p mv (Q.getD i (itZ, 0)) Q w3) := Lib.hid (rem_post hn.out HM.out (List.Perm.refl _) rfl HL.out (Chg.refl _ _) k1 k2 k3)
    clear k1 k2 k3 m2
    go_wp2
    go_ret
    exact ⟨⟨_, rfl⟩, HP.out⟩
  · have t1 : ((m : Int) != (i : Int)) = true := by simp; omega
    have t2 : (m != i) = true := by simp; omega
    have t3 : (m == i) = false := by simp; omega
    have him : i < m := by omega
    have hiQ : i < Q.length := by have := hn.out; omega
    have hmQ : m < Q.length := by have := hn.out; omega
    obtain ⟨Q1, hQ1⟩ : ∃ Q1, Q1 = swapI (itZ, 0) Q i m := ⟨_, rfl⟩
    have HD : Hid (DownW (itsQ Q1) m i) := Lib.hid (by
      refine heap_changed_below (l := itsQ Q) (fun k h0 hk => HH.out k h0 (by omega)) ?_ him
      intro k hk hkm
      rw [hQ1, itsQ_swap hiQ hmQ, swapI_get itZ (itsQ Q) i m k (by simpa [itsQ] using hiQ) (by simpa [itsQ] using hmQ), if_neg (by omega), if_neg hk])
    have HPM : Hid (Q1.Perm Q) := Lib.hid (by rw [hQ1]; exact swapI_perm _ _ _ _ hiQ hmQ)
    have HX : Hid (Q1.getD m (itZ, 0) = Q.getD i (itZ, 0)) := Lib.hid (by rw [hQ1, swapI_get _ _ _ _ _ hiQ hmQ, if_pos rfl])
    have HL1 : Hid (n = Q1.length) := Lib.hid (by rw [HPM.out.length_eq]; exact hn.out)
    have HQ1 := Lib.hid hQ1
    have hq0 : QH w tb qb cap Q := ⟨by have := hh.c1; rw [← hn.out]; exact this, h, hne⟩
    clear hQ1 hil
    go_enter Try.func30, Try.ntmps30
    unfold qI
    go_wp2_with fail
    refine (qlen_any _ _ _ _).mono ?_
    rintro e w2 ⟨rfl, rfl⟩
    have m2 := m_swap _ _ _ hh.c1
    clear m1
    go_wp2_with fail
    rw [hn.out]
    refine (swap_any qb cap i m Q w h hiQ hmQ (by omega)).mono ?_
    rw [← HQ1.out, ← hn.out]
    rintro e w3 ⟨rfl, q1, c1⟩
    have hq1 := hq0.to q1 HPM.out c1
    have hh1 := hh.chg c1 hne
    clear m2 hq0 h hh q1
    go_wp2_with fail
    refine (down_any tb qb cap m i Q1 _ hq1 (by have := HL1.out; omega) him HD.out (by have := HL1.out; omega)).mono ?_
    rintro e w4 (⟨rfl, R, r1, r2, r3, r4, r5⟩ | ⟨rfl, hq, hU, hc⟩)
    · have hne2 : tb ∉ blksQ qb R := r1.ne
      have hh2 := hh1.chg r5 hq1.ne
      have HR : Hid (R.Perm Q ∧ HeapN (itsQ R) m ∧ R.getD m (itZ, 0) = Q.getD i (itZ, 0) ∧ n = R.length ∧ Chg (blksQ qb Q) w w4) := Lib.hid ⟨r2.trans HPM.out, r3, by rw [← HX.out]; exact r4 m (Nat.le_refl _), by rw [r2.length_eq]; exact HL1.out, c1.trans (r5.mono fun y hy => (blks_perm HPM.out y).1 hy)⟩
      have m2 := m_pop ⟨tb, 1, none⟩ w4
      have qR := r1.q
      clear r1 r2 r3 r4 r5 hq1 hh1 c1
      go_wp2_with fail
      refine (pop_any tb qb cap n m p mv R w4 qR hne2 hh2 (Lib.hid HR.out.2.2.2.1) HM.out hcap hlen).mono ?_
      rintro e w5 ⟨⟨v, rfl⟩, k1, k2, k3⟩
      have HP : Hid (RemPost w tb qb cap m p mv (Q.getD i (itZ, 0)) Q w5) := Lib.hid (rem_post hn.out HM.out HR.out.1 HR.out.2.2.1 HR.out.2.1 HR.out.2.2.2.2 k1 k2 k3)
      clear k1 k2 k3 m2
      go_wp2
      go_ret
      exact ⟨⟨_, rfl⟩, HP.out⟩
    · have HU := Lib.hid hU
      have hh2 := hh1.chg hc hq1.ne
      have HC : Hid (Chg (blksQ qb Q) w w4) := Lib.hid (c1.trans (hc.mono fun y hy => (blks_perm HPM.out y).1 hy))
      clear hU hc hq1 hh1 c1
      go_wp2_with fail
      refine (up_any tb qb cap m i Q1 _ hq (by have := HL1.out; omega) him HU.out (by have := HL1.out; omega)).mono ?_
      rintro e w5 ⟨rfl, R, r1, r2, r3, r4, r5⟩
      have hne2 : tb ∉ blksQ qb R := r1.ne
      have hh3 := hh2.chg r5 hq.ne
      have HR : Hid (R.Perm Q ∧ HeapN (itsQ R) m ∧ R.getD m (itZ, 0) = Q.getD i (itZ, 0) ∧ n = R.length ∧ Chg (blksQ qb Q) w w5) := Lib.hid ⟨r2.trans HPM.out, r3, by rw [← HX.out]; exact r4 m (Nat.le_refl _), by rw [r2.length_eq]; exact HL1.out, HC.out.trans (r5.mono fun y hy => (blks_perm HPM.out y).1 hy)⟩
      have m2 := m_pop ⟨tb, 1, none⟩ w5
      have qR := r1.q
      clear r1 r2 r3 r4 r5 hq hh2
      go_wp2_with fail
      refine (pop_any tb qb cap n m p mv R w5 qR hne2 hh3 (Lib.hid HR.out.2.2.2.1) HM.out hcap hlen).mono ?_
      rintro e w6 ⟨⟨v, rfl⟩, k1, k2, k3⟩
      have HP : Hid (RemPost w tb qb cap m p mv (Q.getD i (itZ, 0)) Q w6) := Lib.hid (rem_post hn.out HM.out HR.out.1 HR.out.2.2.1 HR.out.2.1 HR.out.2.2.2.2 k1 k2 k3)
      clear k1 k2 k3 m2
      go_wp2
      go_ret
      exact ⟨⟨_, rfl⟩, HP.out⟩

end Go.Proofs.Ytlkhaookdmgbnaa
