/- Tables of IDs and their tapes, act by act: any Draw, does. -/
import Derived.Test.YteehenajchdgaaaPendE
import Derived.Test.YteehenajchdgaaaActs29
import Derived.Test.YteehenajchdgaaaArgs
namespace Go.Proofs.Yteehenajchdgaaa
open Go.RowKit Go.Maps

def badP (n : Nat) (u s : Int) : Bool := decide (u < 0 ∨ (n : Int) ≤ u ∨ s < 0 ∨ 32 ≤ s)
def errP (n : Nat) (L : List Ou) (u s : Int) : Nat := if badP n u s then 1 else if 65536 ≤ lenO L u then 9 else 0
def idP (n : Nat) (L : List Ou) (u s : Int) (x : Nat) : Nat := if errP n L u s = 0 then nextO L u (x % 65536) else 0
def drawL (n : Nat) (L : List Ou) (u s : Int) (x : Nat) : List Ou := if errP n L u s = 0 then L ++ [⟨u, s, nextO L u (x % 65536)⟩] else L
def usedP (n : Nat) (L : List Ou) (u s : Int) (k : Nat) : Nat := if errP n L u s = 0 then k + 1 else k
theorem idP_lt (n : Nat) (L : List Ou) (u s : Int) (x : Nat) : idP n L u s x < 65536 := by
  unfold idP
  split
  · exact nextO_lt L u (Nat.mod_lt _ (by omega))
  · omega
theorem errP_ok {n : Nat} {L : List Ou} {u s : Int} (h : errP n L u s = 0) : (0 ≤ u ∧ u < n) ∧ (0 ≤ s ∧ s < 32) ∧ lenO L u < 65536 := by
  unfold errP at h
  split at h
  · cases h
  · rename_i hb
    unfold badP at hb
    split at h
    · cases h
    · simp at hb; omega
theorem drawL_ok {n : Nat} {L : List Ou} (h : OkO n L) (u s : Int) (x : Nat) : OkO n (drawL n L u s x) := by
  unfold drawL
  split
  · rename_i he
    obtain ⟨h1, h2, h3⟩ := errP_ok he
    exact h.draw h1.1 h1.2 h2.1 h2.2 h3 (Nat.mod_lt _ (by omega))
  · exact h
theorem drawL_len (n : Nat) (L : List Ou) (u s : Int) (x : Nat) : (drawL n L u s x).length ≤ L.length + 1 := by
  unfold drawL
  split <;> simp
theorem usedP_le (n : Nat) (L : List Ou) (u s : Int) (k : Nat) : usedP n L u s k ≤ k + 1 := by
  unfold usedP
  split <;> omega

theorem draw_any (tb : Nat) (ms : List Nat) (n : Nat) (L : List Ou) (w : World) (u s : Int) (b seed : Nat) (l : List Nat) (k r ee k' : Nat) (L' : List Ou) (h : PTab w tb ms n L) (ht : D.TapeAt w b seed l k) (hk : k < 4611686018427387904)
    (he : Hid (ee = errP n L u s)) (hr : Hid (r = idP n L u s (D.drawN seed l k))) (hL : Hid (L' = drawL n L u s (D.drawN seed l k))) (hk' : Hid (k' = usedP n L u s k)) :
    Calls Try.prog 11 #[.pointer (some ⟨tb, 0, none⟩), .int .i64 u, .int .i64 s, .pointer (some ⟨b, 0, none⟩)] w fun e w' =>
      e = .returned (.tuple #[.int .u16 (r : Nat), .int .i64 (ee : Nat)]) ∧ PTab w' tb ms n L' ∧ D.TapeAt w' b seed l k' ∧ Chg (b :: ms) w w' := by
  rw [he.out, hr.out, hL.out, hk'.out]
  by_cases hb : badP n u s = true
  · have e1 : errP n L u s = 1 := by unfold errP; rw [if_pos hb]
    unfold idP drawL usedP
    rw [e1, if_neg (by omega), if_neg (by omega), if_neg (by omega)]
    obtain ⟨g, h1, h2⟩ := h.head
    refine (draw_arg tb w u s n _ _ h.n9 (cell_of h1) (by unfold badP at hb; simpa using hb)).mono ?_
    rintro e w' ⟨rfl, rfl⟩
    exact ⟨rfl, h, ht, Chg.refl _ _⟩
  · have hb' : ¬(u < 0 ∨ (n : Int) ≤ u ∨ s < 0 ∨ 32 ≤ s) := by unfold badP at hb; simpa using hb
    obtain ⟨i, rfl⟩ : ∃ i : Nat, u = i := ⟨u.toNat, by omega⟩
    obtain ⟨t, rfl⟩ : ∃ t : Nat, s = t := ⟨s.toNat, by omega⟩
    have hi : i < ms.length := by have := h.len; omega
    by_cases hl : 65536 ≤ lenO L (i : Int)
    · have e1 : errP n L (i : Int) (t : Int) = 9 := by unfold errP; rw [if_neg hb, if_pos hl]
      unfold idP drawL usedP
      rw [e1, if_neg (by omega), if_neg (by omega), if_neg (by omega)]
      refine (draw_full tb ms n L w i t _ h hi (by omega) hl).mono ?_
      rintro e w' ⟨rfl, rfl⟩
      exact ⟨rfl, h, ht, Chg.refl _ _⟩
    · have e1 : errP n L (i : Int) (t : Int) = 0 := by unfold errP; rw [if_neg hb, if_neg hl]
      unfold idP drawL usedP
      rw [e1, if_pos rfl, if_pos rfl, if_pos rfl]
      exact draw_ok tb ms n L w i t b seed l k _ h ht hk hi (by omega) (by omega) (Lib.hid rfl)

/-- Where things stand: what is out, how many draws there were. -/
structure PS where
  L : List Ou
  k : Nat
def doP (n seed : Nat) (l : List Nat) (st : PS) (a : ActT) : PS :=
  if a.k = 0 then ⟨drawL n st.L a.u a.n (D.drawN seed l st.k), usedP n st.L a.u a.n st.k⟩ else if a.k = 1 then ⟨freeA st.L a.n, st.k⟩ else if a.k = 2 then ⟨freeO st.L a.n a.u, st.k⟩ else st
def runP (n seed : Nat) (l : List Nat) (st : PS) (acts : List ActT) : PS := acts.foldl (doP n seed l) st
theorem runP_snoc (n seed : Nat) (l : List Nat) (st : PS) (acts : List ActT) (a : ActT) : runP n seed l st (acts ++ [a]) = doP n seed l (runP n seed l st acts) a := by simp [runP, List.foldl_append]
theorem doP_len (n seed : Nat) (l : List Nat) (st : PS) (a : ActT) : (doP n seed l st a).L.length ≤ st.L.length + 1 ∧ (doP n seed l st a).k ≤ st.k + 1 := by
  unfold doP
  split
  · exact ⟨drawL_len _ _ _ _ _, usedP_le _ _ _ _ _⟩
  · split
    · exact ⟨Nat.le_succ_of_le (freeA_le _ _), by simp⟩
    · split
      · exact ⟨Nat.le_succ_of_le (freeO_le _ _ _), by simp⟩
      · exact ⟨by omega, by omega⟩
theorem runP_len (n seed : Nat) (l : List Nat) (st : PS) (acts : List ActT) : (runP n seed l st acts).L.length ≤ st.L.length + acts.length ∧ (runP n seed l st acts).k ≤ st.k + acts.length := by
  induction acts generalizing st with
  | nil => exact ⟨by simp [runP], by simp [runP]⟩
  | cons a acts ih =>
    have h1 := ih (doP n seed l st a)
    have h2 := doP_len n seed l st a
    have e : runP n seed l st (a :: acts) = runP n seed l (doP n seed l st a) acts := rfl
    rw [e]
    simp only [List.length_cons]
    omega

/-- A table and its tape. -/
structure TT (w : World) (tb : Nat) (ms : List Nat) (n b seed : Nat) (l : List Nat) (st : PS) : Prop where
  tab : PTab w tb ms n st.L
  tape : D.TapeAt w b seed l st.k
theorem TT.same {w w' : World} {tb : Nat} {ms : List Nat} {n b seed : Nat} {l : List Nat} {st : PS} (h : TT w tb ms n b seed l st) (hc : Chg [] w w') : TT w' tb ms n b seed l st :=
  ⟨h.tab.same hc, tape_chg h.tape hc (odd_nil w) (by simp)⟩
theorem chg_cons {b : Nat} {ms : List Nat} {w w' : World} (h : Chg ms w w') : Chg (b :: ms) w w' := h.mono (fun x hx => List.mem_cons_of_mem _ hx)
theorem PTab.btape {w w' : World} {tb : Nat} {ms : List Nat} {n : Nat} {L : List Ou} (h : PTab w tb ms n L) {b seed : Nat} {l : List Nat} {k : Nat} (ht : D.TapeAt w b seed l k) (hc : Chg ms w w') : D.TapeAt w' b seed l k :=
  tape_chg ht hc h.odd (fun hb => h.not_tape ht b hb rfl)

theorem does_any (tb : Nat) (ms : List Nat) (n b seed : Nat) (l : List Nat) (st st' : PS) (a : ActT) (w : World) (h : TT w tb ms n b seed l st) (hk : st.k ≤ 1000000) (hL : st.L.length ≤ 1000000) (hst : Hid (st' = doP n seed l st a)) :
    Calls Try.prog 12 #[.pointer (some ⟨tb, 0, none⟩), .agg #[.int .u8 (a.k : Nat), .int .i64 a.u, .int .i64 a.n], .pointer (some ⟨b, 0, none⟩)] w fun e w' => e = .returned (.tuple #[]) ∧ TT w' tb ms n b seed l st' ∧ Chg (b :: ms) w w' := by
  rw [hst.out]
  obtain ⟨K, U, S⟩ := a
  obtain ⟨L, k⟩ := st
  simp only at hk hL ⊢
  have h1 := h.same ((Chg.refl [] w).alloc (.cells #[.int .u8 (K : Nat), .int .i64 U, .int .i64 S] 33))
  have hc0 : Chg (b :: ms) w (w.alloc (.cells #[.int .u8 (K : Nat), .int .i64 U, .int .i64 S] 33)) := (Chg.refl _ w).alloc _
  have HC0 := Lib.hid hc0
  have H1 := Lib.hid h1
  clear h h1 hc0
  unfold doP
  by_cases h0 : K = 0
  · subst h0
    rw [if_pos rfl]
    go_enter Try.func12, Try.ntmps12
    go_wp2_with fail
    refine (draw_any tb ms n L _ U S b seed l k _ _ _ _ H1.out.tab H1.out.tape (by omega) (Lib.hid rfl) (Lib.hid rfl) (Lib.hid rfl) (Lib.hid rfl)).mono ?_
    rintro e w1 ⟨rfl, hp, ht, hc⟩
    go_wp2
    go_end0
    exact ⟨rfl, ⟨hp, ht⟩, HC0.out.trans hc⟩
  have t0 : ((K : Int) == 0) = false := by simp; omega
  rw [if_neg h0]
  by_cases h1 : K = 1
  · subst h1
    rw [if_pos rfl]
    go_enter Try.func12, Try.ntmps12
    go_wp2_with fail
    refine (free_any tb ms n L _ S _ H1.out.tab (Lib.hid rfl) hL).mono ?_
    rintro e w1 ⟨rfl, hp, hc⟩
    have ht := H1.out.tab.btape H1.out.tape hc
    go_wp2
    go_end0
    exact ⟨rfl, ⟨hp, ht⟩, HC0.out.trans (chg_cons hc)⟩
  have t1 : ((K : Int) == 1) = false := by simp; omega
  rw [if_neg h1]
  by_cases h2 : K = 2
  · subst h2
    rw [if_pos rfl]
    go_enter Try.func12, Try.ntmps12
    go_wp2_with fail
    refine (freeAt_any tb ms n L _ U S _ H1.out.tab (Lib.hid rfl)).mono ?_
    rintro e w1 ⟨rfl, hp, hc⟩
    have ht := H1.out.tab.btape H1.out.tape hc
    go_wp2
    go_end0
    exact ⟨rfl, ⟨hp, ht⟩, HC0.out.trans (chg_cons hc)⟩
  have t2 : ((K : Int) == 2) = false := by simp; omega
  rw [if_neg h2]
  go_enter Try.func12, Try.ntmps12
  go_wp2
  go_end0
  exact ⟨rfl, H1.out, HC0.out⟩

end Go.Proofs.Yteehenajchdgaaa
