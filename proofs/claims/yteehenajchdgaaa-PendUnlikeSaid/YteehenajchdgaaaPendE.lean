/- The walks of a table of IDs: Draw. -/
import Derived.Test.YteehenajchdgaaaPendD
namespace Go.Proofs.Yteehenajchdgaaa
open Go.RowKit Go.Maps

theorem and_65535 (d : Nat) (h : d < 18446744073709551616) : bits BinOp.and IntKind.u64 (d : Int) 65535 = ((d % 65536 : Nat) : Int) := by
  have h1 := bits_and_u64_nat d 65535 h (by omega)
  have h2 : d &&& 65535 = d % 65536 := by
    have := Nat.and_two_pow_sub_one_eq_mod d 16
    simpa using this
  rw [h2] at h1
  exact h1
section
variable (tb : Nat) (ms : List Nat) (n : Nat) (L : List Ou) (w : World)
theorem draw_nil (u s : Int) (p : Option Addr) : Calls Try.prog 11 #[.pointer none, .int .i64 u, .int .i64 s, .pointer p] w fun e w' => e = .returned (.tuple #[.int .u16 0, .int .i64 2]) ∧ w = w' := by
  go_enter Try.func11, Try.ntmps11
  go_wp2
  go_ret2
  exact ⟨rfl, rfl⟩
theorem draw_notape (u s : Int) (a : Addr) : Calls Try.prog 11 #[.pointer (some a), .int .i64 u, .int .i64 s, .pointer none] w fun e w' => e = .returned (.tuple #[.int .u16 0, .int .i64 2]) ∧ w = w' := by
  go_enter Try.func11, Try.ntmps11
  go_wp2
  go_ret2
  exact ⟨rfl, rfl⟩
/-- A place, or a slot, that is none. -/
theorem draw_arg (u s : Int) (k : Nat) (a : Option Addr) (c : Addr) (hk : k ≤ 9) (c0 : w.cell? ⟨tb, 0, none⟩ = some (.slice a k k)) (hu : u < 0 ∨ (k : Int) ≤ u ∨ s < 0 ∨ 32 ≤ s) :
    Calls Try.prog 11 #[.pointer (some ⟨tb, 0, none⟩), .int .i64 u, .int .i64 s, .pointer (some c)] w fun e w' => e = .returned (.tuple #[.int .u16 0, .int .i64 1]) ∧ w = w' := by
  by_cases h0 : u < 0
  · have t0 : decide (u < 0) = true := by simpa using h0
    clear hu
    go_enter Try.func11, Try.ntmps11
    go_wp2
    go_ret2
    exact ⟨rfl, rfl⟩
  have t0 : decide (u < 0) = false := by simpa using h0
  by_cases h1 : (k : Int) ≤ u
  · have t1 : decide ((k : Int) ≤ u) = true := by simpa using h1
    clear hu
    go_enter Try.func11, Try.ntmps11
    go_wp2
    go_ret2
    exact ⟨rfl, rfl⟩
  have t1 : decide ((k : Int) ≤ u) = false := by simpa using h1
  by_cases h2 : s < 0
  · have t2 : decide (s < 0) = true := by simpa using h2
    clear hu
    go_enter Try.func11, Try.ntmps11
    go_wp2
    go_ret2
    exact ⟨rfl, rfl⟩
  have t2 : decide (s < 0) = false := by simpa using h2
  have h3 : 32 ≤ s := by omega
  have t3 : decide (32 ≤ s) = true := by simpa using h3
  clear hu
  go_enter Try.func11, Try.ntmps11
  go_wp2
  go_ret2
  exact ⟨rfl, rfl⟩
/-- All are out. -/
theorem draw_full (i s : Nat) (c : Addr) (h : PTab w tb ms n L) (hi : i < ms.length) (hs : s < 32) (hl : 65536 ≤ lenO L (i : Int)) :
    Calls Try.prog 11 #[.pointer (some ⟨tb, 0, none⟩), .int .i64 (i : Nat), .int .i64 (s : Nat), .pointer (some c)] w fun e w' => e = .returned (.tuple #[.int .u16 0, .int .i64 9]) ∧ w = w' := by
  obtain ⟨g, h1, h2⟩ := h.head
  have hlen := h.len
  have h9 := h.n9
  have c0 : w.cell? ⟨tb, 0, none⟩ = some (.slice (some ⟨g, 0, none⟩) n n) := cell_of h1
  have c1 : w.cell? ⟨g, i, none⟩ = some (.map (some ms[i])) := by rw [cell_of h2]; exact mapRow_get ms i hi
  have hk' := fun ty => (h.maps i hi).len ty
  have e1 : (outsP L (i : Int)).length = lenO L (i : Int) := rfl
  rw [e1] at hk'
  obtain ⟨q, hq⟩ : ∃ q, q = lenO L (i : Int) := ⟨_, rfl⟩
  rw [← hq] at hk' hl
  have hq2 := h.ok.len_le (i : Int)
  obtain rfl : q = 65536 := by omega
  obtain ⟨m, hm⟩ : ∃ m, m = ms[i] := ⟨_, rfl⟩
  rw [← hm] at c1 hk'
  have hin : i < n := by omega
  have t0 : decide ((i : Int) < 0) = false := by simp
  have t1 : decide (n ≤ i) = false := by simp; omega
  have t2 : decide ((s : Int) < 0) = false := by simp
  have t3 : decide ((32 : Int) ≤ (s : Int)) = false := by simp; omega
  have t4 : decide (32 ≤ s) = false := by simp; omega
  clear hm h1 h2 h hlen hi hq hq2 e1 hl
  go_enter Try.func11, Try.ntmps11
  go_wp2
  go_ret2
  exact ⟨rfl, rfl⟩

theorem PTab.add {w w' : World} {tb : Nat} {ms : List Nat} {n : Nat} {L : List Ou} {i s r : Nat} {D : DataW Unit} {k : Nat} (h : PTab w tb ms n L) (hi : i < ms.length) (hs : s < 32) (hr : r < 65536) (hf : hasO L (i : Int) r = false) (hD : MapD D (outsP L (i : Int))) (ht : Tidy D)
    (hown : w'.ownsMap Try.prog 34 (plainElem (H := Unit) Try.prog 3) ms[i] k (D.put (.int .u16 (r : Int)) (.lit (.int .i64 (s : Int))))) (hc : Chg [ms[i]] w w') : PTab w' tb ms n (L ++ [⟨i, s, r⟩]) := by
  refine h.turn hi hc ?_ (h.ok.add (by omega) (by have := h.len; omega) (by omega) (by omega) hr hf) ?_
  · rw [outs_add, if_pos rfl]
    exact MapU.mk hown (hD.put ht hr hf ⟨by omega, by omega⟩)
  · intro j hj
    rw [outs_add, if_neg (by omega)]

def DrawRel (p : Nat → Bool) (r : Nat) (v : Value) : Prop := ∃ f y : Nat, y < 65536 ∧ v = .int .u16 (y : Nat) ∧ nf p f y = r ∧ f ≤ 65536
def fuelOf (r : Nat) (v : Value) : Nat := match v with | .int _ x => (r + 65536 - x.toNat) % 65536 | _ => 0
/-- How far the next free one is: each step brings it nearer. -/
theorem nf_step {p : Nat → Bool} {r y : Nat} (hy : y < 65536) (hr : r < 65536) (hp : p y = true) (hfr : p r = false) : (r + 65536 - (y + 1) % 65536) % 65536 < (r + 65536 - y) % 65536 := by
  have : y ≠ r := fun e => by rw [e, hfr] at hp; cases hp
  omega
set_option maxHeartbeats 1000000 in
theorem draw_ok (i s b seed : Nat) (l : List Nat) (k r : Nat) (h : PTab w tb ms n L) (ht : D.TapeAt w b seed l k) (hk : k < 4611686018427387904) (hi : i < ms.length) (hs : s < 32) (hl : lenO L (i : Int) < 65536)
    (hr : Hid (r = nextO L (i : Int) (D.drawN seed l k % 65536))) :
    Calls Try.prog 11 #[.pointer (some ⟨tb, 0, none⟩), .int .i64 (i : Nat), .int .i64 (s : Nat), .pointer (some ⟨b, 0, none⟩)] w fun e w' =>
      e = .returned (.tuple #[.int .u16 (r : Nat), .int .i64 0]) ∧ PTab w' tb ms n (L ++ [⟨i, s, r⟩]) ∧ D.TapeAt w' b seed l (k + 1) ∧ Chg (b :: ms) w w' := by
  obtain ⟨g, h1, h2⟩ := h.head
  have hlen := h.len
  have h9 := h.n9
  have c0 : w.cell? ⟨tb, 0, none⟩ = some (.slice (some ⟨g, 0, none⟩) n n) := cell_of h1
  have c1 : w.cell? ⟨g, i, none⟩ = some (.map (some ms[i])) := by rw [cell_of h2]; exact mapRow_get ms i hi
  have hk' := fun ty => (h.maps i hi).len ty
  have e1 : (outsP L (i : Int)).length = lenO L (i : Int) := rfl
  rw [e1] at hk'
  have hd := ht.small
  have hx : D.drawN seed l k % 65536 < 65536 := Nat.mod_lt _ (by omega)
  have hrl : r < 65536 := by rw [hr.out]; exact nextO_lt L _ hx
  have hrf : hasO L (i : Int) r = false := by rw [hr.out]; exact nextO_free h.ok hl hx
  have hnx := D.next_any b seed l k w ht hk
  obtain ⟨d, hde⟩ : ∃ d, d = D.drawN seed l k := ⟨_, rfl⟩
  rw [← hde] at hnx hr hd hx
  have hand := and_65535 d hd
  have hr' : nf (hasO L (i : Int)) 65536 (d % 65536) = r := hr.out.symm
  have hll := h.ok.len_le (i : Int)
  have hmb : ∀ m ∈ ms, m ≠ b := h.not_tape ht
  obtain ⟨m, hm⟩ : ∃ m, m = ms[i] := ⟨_, rfl⟩
  have hPB : ∀ w', Chg [b] w w' → PTab w' tb ms n L := fun w' hc => h.chg hc (tape_odd ht) (fun m hm => by simpa using hmb m hm)
  have hmu : ∀ w', Chg [b] w w' → MapU w' m (outsP L (i : Int)) := fun w' hc => by rw [hm]; exact (hPB w' hc).maps i hi
  have fin : ∀ w1 w' E k', Chg [b] w w1 → MapD E (outsP L (i : Int)) → Tidy E → w'.ownsMap Try.prog 34 (plainElem (H := Unit) Try.prog 3) m k' (E.put (.int .u16 (r : Int)) (.lit (.int .i64 (s : Int)))) → Chg [m] w1 w' → D.TapeAt w1 b seed l (k + 1) →
      PTab w' tb ms n (L ++ [⟨i, s, r⟩]) ∧ D.TapeAt w' b seed l (k + 1) ∧ Chg (b :: ms) w w' := by
    intro w1 w' E k' hc1 hD htd hown hc' htp
    have hP1 := hPB w1 hc1
    rw [hm] at hown hc'
    refine ⟨hP1.add hi hs hrl hrf hD htd hown hc', ?_, ?_⟩
    · refine tape_chg htp hc' ?_ ?_
      · intro k hk
        simp at hk
        exact hP1.odd k (by rw [hk]; exact List.getElem_mem hi)
      · simp
        exact fun e => hmb _ (List.getElem_mem hi) e.symm
    · refine Chg.trans (hc1.mono (by simp)) (hc'.mono ?_)
      intro x hx
      simp at hx
      rw [hx]
      exact List.mem_cons_of_mem _ (List.getElem_mem hi)
  obtain ⟨q, hq⟩ : ∃ q, q = lenO L (i : Int) := ⟨_, rfl⟩
  rw [← hq] at hk' hl
  rw [← hm] at c1 hk'
  have hin : i < n := by omega
  have t0 : decide ((i : Int) < 0) = false := by simp
  have t1 : decide (n ≤ i) = false := by simp; omega
  have t2 : decide ((s : Int) < 0) = false := by simp
  have t3 : decide ((32 : Int) ≤ (s : Int)) = false := by simp; omega
  have t4 : decide (32 ≤ s) = false := by simp; omega
  have t5 : decide ((65536 : Int) ≤ (q : Int)) = false := by simp; omega
  have t6 : decide (65536 ≤ q) = false := by simp; omega
  have HR := Lib.hid hr'
  have FIN := Lib.hid fin
  have HMU := Lib.hid hmu
  clear hm h1 h2 h hlen hi hq e1 fin hmu hPB hmb hr hr' ht hde
  go_enter Try.func11, Try.ntmps11
  go_wp2_with fail
  refine hnx.mono ?_
  rintro e w1 ⟨rfl, ht1, hc1⟩
  have HMU1 := Lib.hid (HMU.out w1 hc1)
  clear hnx HMU
  go_wp2_with fail
  go_loop [11] (DrawRel (hasO L (i : Int)) r) (fuelOf r)
  case atStart => exact ⟨65536, d % 65536, hx, by go_num, HR.out, Nat.le_refl _⟩
  case round =>
    obtain ⟨f, y, hy, rfl, hf, hfle⟩ := hrel
    have hlook := HMU1.out.look hy
    have e2 : hasP (outsP L (i : Int)) y = hasO L (i : Int) y := rfl
    rw [e2] at hlook
    obtain ⟨a', ha'⟩ : ∃ a', a' = atP (outsP L (i : Int)) y := ⟨_, rfl⟩
    rw [← ha'] at hlook
    have HF := Lib.hid hf
    clear ha' e2 hf HR
    cases hb : hasO L (i : Int) y with
    | true =>
      rw [hb] at hlook
      have hnew : ∃ f', nf (hasO L (i : Int)) f' ((y + 1) % 65536) = r ∧ f' ≤ 65536 := by
        have hf := HF.out
        cases f with
        | zero =>
          unfold nf at hf
          rw [hf, hrf] at hb
          cases hb
        | succ f' =>
          unfold nf at hf
          rw [if_pos hb] at hf
          exact ⟨f', hf, by omega⟩
      have hms := nf_step hy hrl hb hrf
      have HNEW := Lib.hid hnew
      have HMS := Lib.hid hms
      clear hb hnew hms hrf HF
      go_wp2
      go_round
      case rel =>
        obtain ⟨f', h1, h2⟩ := HNEW.out
        exact ⟨f', (y + 1) % 65536, Nat.mod_lt _ (by omega), by go_num, h1, h2⟩
      case measure =>
        have := HMS.out
        simp only [fuelOf]
        have e : IntKind.u16.wrap ((y : Int) + 1) = (((y + 1) % 65536 : Nat) : Int) := by first | (rw [IntKind.wrap_u16]; omega) | (simp [IntKind.wrap, IntKind.bits, IntKind.signed]; omega)
        rw [e, Int.toNat_natCast, Int.toNat_natCast]; exact this
    | false =>
      rw [hb] at hlook
      have hyr : y = r := by
        have hf := HF.out
        cases f with
        | zero => exact hf
        | succ f' =>
          unfold nf at hf
          rw [if_neg (by rw [hb]; simp)] at hf
          exact hf
      subst hyr
      obtain ⟨E, hown, hE⟩ := HMU1.out
      have htd := hown.tidy lawU
      have hEs := hE.size
      have HE := Lib.hid hE
      have hql : (outsP L (i : Int)).length ≤ 65536 := hll
      clear hb hE HF HMU1 hEs
      go_wp2_with (first | (at_mapUpdate; refine wpList_mapUpdate_own _ rfl _ _ _ 69 rfl 34 3 lawU Try.underlying69 _ m (outsP L (i : Int)).length _ rfl hown (by unfold maxLen; omega) _ _ _ rfl rfl (key_u16 hy) _ [] (plainElem_int Try.underlying3 (WalkArith.wf_i64 (by omega))) ?_; intro w2 hown2 hg2))
      go_ret2
      exact ⟨rfl, FIN.out w1 w2 E _ hc1 HE.out htd hown2 ((Chg.refl [m] w1).grown hg2 (fun k hk => by cases hk; simp)) ht1⟩
end

end Go.Proofs.Yteehenajchdgaaa
