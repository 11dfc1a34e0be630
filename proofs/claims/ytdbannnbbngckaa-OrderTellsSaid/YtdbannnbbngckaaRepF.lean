/- The walks of package repute: Due, Back. -/
import Derived.Test.YtdbannnbbngckaaRepE
namespace Go.Proofs.Ytdbannnbbngckaa
open Go.RowKit

def DueR (us : List Up) (w : World) (l f i : Value) (wr : World) : Prop :=
  ∃ k : Nat, k ≤ us.length ∧ i = .int .i64 k ∧ l = .int .i64 ((dueN (us.take k)).1 : Nat) ∧ f = .bool (dueN (us.take k)).2 ∧ (dueN (us.take k)).1 ≤ 2000000000000 ∧ Chg [] w wr

theorem due_step (us : List Up) (k : Nat) (h : k < us.length) : dueN (us.take (k + 1)) = dueS (dueN (us.take k)) us[k] := by
  rw [List.take_succ_eq_append_getElem h, dueN_snoc]

/-- The first k are as behind, the others as before. -/
def mix (f : Up → Up) (us : List Up) (k : Nat) : List Up := (us.take k).map f ++ us.drop k
theorem mix_len (f : Up → Up) (us : List Up) (k : Nat) : (mix f us k).length = us.length := by simp [mix]; omega
theorem mix_get? (f : Up → Up) (us : List Up) (k : Nat) (h : k < us.length) : (mix f us k)[k]? = some us[k] := by
  unfold mix
  rw [List.getElem?_append_right (by simp; omega)]
  have e : k - ((us.take k).map f).length = 0 := by simp; omega
  rw [e, List.drop_eq_getElem_cons h]
  rfl
theorem mix_get (f : Up → Up) (us : List Up) (k : Nat) (h : k < us.length) (h' : k < (mix f us k).length) : (mix f us k)[k] = us[k] := by
  have e : (mix f us k)[k]? = some us[k] := mix_get? f us k h
  rw [List.getElem?_eq_getElem h'] at e
  exact Option.some.inj e
theorem mix_succ (f : Up → Up) (us : List Up) (k : Nat) (h : k < us.length) : mix f us (k + 1) = (mix f us k).set k (f us[k]) := by
  unfold mix
  rw [List.take_succ_eq_append_getElem h, List.set_append_right _ _ (by simp; omega)]
  have e : k - ((us.take k).map f).length = 0 := by simp; omega
  rw [e, List.drop_eq_getElem_cons h, List.set_cons_zero, List.map_append]
  simp only [List.map_cons, List.map_nil, List.append_assoc, List.cons_append, List.nil_append]
theorem mix_zero (f : Up → Up) (us : List Up) : mix f us 0 = us := by simp [mix]
theorem mix_all (f : Up → Up) (us : List Up) : mix f us us.length = us.map f := by simp [mix]

def BackR (b r L R : Nat) (us : List Up) (now : Int) (w : World) (v i : Value) (wr : World) : Prop :=
  ∃ k : Nat, k ≤ us.length ∧ i = .int .i64 k ∧ OwnI w.heap.size wr v (idxN (Up.over now) 0 (us.take k)) ∧ Book wr b r L R (mix (Up.backS L now) us k) ∧ Chg [r] w wr

theorem book_grown {TB TU : TypeId} {w w' : World} {b r L R base : Nat} {us : List Up} {row : Option Nat} (h : BookAt TB TU w b r L R us) (hg : w.grownBy w' row) (hr : ∀ k, row = some k → k ∈ ([] : List Nat) ∨ base ≤ k) (hb : b < base) (hrb : r < base) : BookAt TB TU w' b r L R us := by
  have key : ∀ k, k < base → k < w.heap.size → w'.heap[k]? = w.heap[k]? := fun k hk hk2 => hg.block k hk2 (fun e => by rcases hr k e.symm with hh | hh; simp at hh; omega)
  obtain ⟨cap, h1, h2⟩ := h.head
  obtain ⟨rest, h3⟩ := h.row
  exact ⟨h.hL, h.hR, h.len, h.ok, h.ne, ⟨cap, h1, by rw [key b hb (lt_of_block h2)]; exact h2⟩, ⟨rest, by rw [key r hrb (lt_of_block h3)]; exact h3⟩⟩

theorem over_mix {L : Nat} {now : Int} {us : List Up} {k : Nat} (h : k < us.length) (hn : us[k].over now = false) : mix (Up.backS L now) us (k + 1) = mix (Up.backS L now) us k := by
  rw [mix_succ _ _ _ h]
  have e : us[k].backS L now = us[k] := by unfold Up.backS; rw [hn]; rfl
  rw [e]
  have := set_same (mix (Up.backS L now) us k) k (by rw [mix_len]; exact h)
  rw [mix_get _ _ _ h] at this
  exact this

set_option maxRecDepth 100000 in
set_option maxHeartbeats 4000000 in
theorem back_any (b r L R : Nat) (us : List Up) (now : Int) (w : World) (h : Book w b r L R us) :
    Calls Try.prog 16 #[.pointer (some ⟨b, 0, none⟩), .int .i64 now] w fun e w' => ∃ v, e = .returned v ∧ OwnI w.heap.size w' v (backI now us) ∧ Book w' b r L R (backB L now us) ∧ Chg [r] w w' := by
  obtain ⟨cap, hcap, c2⟩ := h.c2
  have hlen := h.len
  have hrb := h.ltr
  have hbw := h.lt
  have hLL := h.hL
  obtain ⟨i0, hi0, hz0, hz1, hz2⟩ := info_parts Try.elemInt
  go_enter Try.func16, Try.ntmps16
  go_wp2
  go_loopw [5, 15] (BackR b r L R us now w) (fun _ i _ => us.length - (intOf i).toNat)
  case atStart => exact ⟨0, Nat.zero_le _, rfl, ⟨rfl, .inl ⟨rfl, rfl⟩⟩, by rw [mix_zero]; exact h, Chg.refl _ _⟩
  case round =>
    obtain ⟨k, hk, rfl, hown, hbk, hC⟩ := hrel
    have hle := idx_le (Up.over now) us k
    by_cases hlt : k < us.length
    · have hst := idx_step (Up.over now) us k hlt
      obtain ⟨l, hl⟩ : ∃ l, l = idxN (Up.over now) 0 (us.take k) := ⟨_, rfl⟩
      rw [← hl] at hst hown hle
      obtain ⟨av, cv, hv⟩ := owns_len hown
      have hni : (k : Int) < (us.length : Int) := by omega
      have hkm : k < (mix (Up.backS L now) us k).length := by rw [mix_len]; exact hlt
      obtain ⟨o0, o1, o2, o3, o4, o5, o6⟩ := hbk.row.one k hkm
      have hok := h.ok _ (List.getElem_mem hlt)
      rw [mix_get _ _ _ hlt] at o0 o1 o2 o3 o4 o5 o6
      have hms := mix_succ (Up.backS L now) us k hlt
      have hmo := @over_mix L now us k hlt
      have hmg := mix_get? (Up.backS L now) us k hlt
      have hmL := mix_len (Up.backS L now) us k
      have hok2 : AllOk (mix (Up.backS L now) us (k + 1)) := by
        intro x hx
        rcases List.mem_append.1 hx with hx | hx
        · obtain ⟨y, hy, rfl⟩ := List.mem_map.1 hx
          exact backS_ok (h.ok y (List.mem_of_mem_take hy)) hLL
        · exact h.ok x (List.mem_of_mem_drop hx)
      obtain ⟨p, hp⟩ : ∃ p, p = us[k] := ⟨_, rfl⟩
      obtain ⟨vs, hvs⟩ : ∃ vs, vs = mix (Up.backS L now) us k := ⟨_, rfl⟩
      rw [← hvs] at hbk hms hmg hmo hmL
      rw [← hp] at o0 o1 o2 o3 o4 o5 o6 hst hok hms hmo hmg
      have htil := hok.til
      have hkv : k < vs.length := by rw [hmL]; exact hlt
      have HST := Lib.hid hst
      have HOWN := Lib.hid hown
      have HMS := Lib.hid hms
      have HMO := Lib.hid hmo
      have HMG : Hid (vs[k] = p) := Lib.hid (by rw [List.getElem?_eq_getElem hkv] at hmg; exact Option.some.inj hmg)
      have HML := Lib.hid hmL
      have HO2 := Lib.hid hok2
      clear hst hl c2 hown hms hmo hmg hmL hok2 hok hkm hvs hp
      rw [hv] at HOWN ⊢
      clear hv
      by_cases hov : p.over now = true
      · have hr : p.rests = true := by unfold Up.over at hov; simp at hov; exact hov.1
        have hn : (p.til : Int) ≤ now := by unfold Up.over at hov; simp at hov; exact hov.2
        have HOV := Lib.hid hov
        rw [hr] at o4
        clear hov hr
        go_wp2_with fail
        refine calls_abs ?_
        intro w1 hw1
        have b1 : Book w1 b r L R vs := by rw [hw1]; exact hbk.chg ((Chg.refl [] _).alloc _) (by simp) (by simp)
        have hC1 : Chg [r] w w1 := by rw [hw1]; exact hC.alloc _
        have own1 : OwnI w.heap.size w1 (.slice av l.length cv) l := by rw [hw1]; exact HOWN.out.alloc _
        have hs1 : wr.heap.size + 1 = w1.heap.size := by rw [hw1]; simp
        clear hw1 o0 o1 o2 o3 o4 o5 o6 hbk HOWN hC
        refine (step_ret b r L R k vs now w1 b1 hkv).mono ?_
        rintro e w2 ⟨rfl, row2, hc2⟩
        have ee : vs.set k (vs[k].ret L) = mix (Up.backS L now) us (k + 1) := by
          rw [HMS.out, HMG.out]; unfold Up.backS; rw [HOV.out]; rfl
        rw [ee] at row2
        have b2 : Book w2 b r L R (mix (Up.backS L now) us (k + 1)) := b1.to hc2 (by rw [mix_len, HML.out]) HO2.out row2
        have hC2 : Chg [r] w w2 := hC1.trans hc2
        have own2 : OwnI w.heap.size w2 (.slice av l.length cv) l := owns_chg own1 hc2 (by simpa using hrb)
        have HOWN2 := Lib.hid own2
        clear ee own2 own1 hs1 row2 b1 hc2 hC1
        go_wp2_with (at_builtin; go_must (refine wpList_append_own _ rfl _ _ 32 rfl w.heap.size 3 i0 (.int .i64 0) 1 8 Try.underlying32 hi0 hz0 hz1 hz2 rfl (by decide) _ l.length _ rfl (HOWN2.out.alloc _) ⟨w2.heap.size, 0, none⟩ 1 1 [.int .i64 (k : Nat)] rfl rfl (cell_one_new _ _ _) (by simp [Value.oneCell']) (by unfold maxLen; omega) (by omega) (by have := hC2.size; simp; omega) ?_); go_must (intro v1 w3 hown3 hg3 _; have b3 := book_grown (b2.chg ((Chg.refl [] _).alloc (.cells #[.int .i64 (k : Nat)] 3)) (by simp) (by simp)) hg3 (owns_block HOWN2.out) hbw hrb; have hC3 : Chg [r] w w3 := (hC2.alloc (.cells #[.int .i64 (k : Nat)] 3)).grown hg3 (owns_blockS HOWN2.out (Nat.le_refl _))))
        go_roundw
        case rel =>
          refine ⟨k + 1, hlt, by go_num, ?_, b3, hC3⟩
          rw [HST.out, HOV.out, if_pos rfl]
          exact OwnI.snoc hown3
        case measure => simp [intOf] <;> omega
      · have hov' : p.over now = false := by simpa using hov
        have HOV := Lib.hid hov'
        clear hov
        by_cases hr : p.rests = true
        · have hn : ¬ (p.til : Int) ≤ now := by intro hh; unfold Up.over at hov'; simp [hr, hh] at hov'
          have dn : decide ((p.til : Int) ≤ now) = false := by simpa using hn
          rw [hr] at o4
          clear hov' hr hn
          go_wp2
          go_roundw
          case rel =>
            refine ⟨k + 1, hlt, by go_num, ?_, ?_, hC.alloc _⟩
            · rw [HST.out, HOV.out, if_neg (by decide), List.append_nil]; exact HOWN.out.alloc _
            · rw [HMO.out HOV.out]; exact hbk.chg ((Chg.refl [] _).alloc _) (by simp) (by simp)
          case measure => simp [intOf] <;> omega
        · have hr' : p.rests = false := by simpa using hr
          rw [hr'] at o4
          clear hov' hr hr'
          go_wp2
          go_roundw
          case rel =>
            refine ⟨k + 1, hlt, by go_num, ?_, ?_, hC.alloc _⟩
            · rw [HST.out, HOV.out, if_neg (by decide), List.append_nil]; exact HOWN.out.alloc _
            · rw [HMO.out HOV.out]; exact hbk.chg ((Chg.refl [] _).alloc _) (by simp) (by simp)
          case measure => simp [intOf] <;> omega
    · obtain rfl : k = us.length := by omega
      rw [List.take_of_length_le (Nat.le_refl _)] at hown
      obtain ⟨l, hl⟩ : ∃ l, l = idxN (Up.over now) 0 us := ⟨_, rfl⟩
      rw [← hl] at hown
      rw [mix_all] at hbk
      have HL : Hid (backI now us = l) := Lib.hid (by rw [hl]; rfl)
      clear hl
      obtain ⟨av, cv, rfl⟩ := owns_len hown
      have HOWN := Lib.hid hown
      clear hown
      go_wp2
      go_ret
      rw [HL.out]
      exact ⟨_, rfl, HOWN.out, hbk, hC⟩

end Go.Proofs.Ytdbannnbbngckaa
