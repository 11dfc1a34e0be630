/- The walks of a table of IDs: FreeAt, Free. -/
import Derived.Test.YteehenajchdgaaaPendA
namespace Go.Proofs.Yteehenajchdgaaa
open Go.RowKit Go.Maps

theorem MapD.del {D : DataW Unit} {M : List (Nat × Int)} (h : MapD D M) (ht : Tidy D) {p : Nat × Int} (hp : p ∈ M) : MapD (D.del (.int .u16 (p.1 : Int))) (M.filter fun q => !decide (q.1 = p.1)) := by
  have hsub : (M.filter fun q => !decide (q.1 = p.1)).Sublist M := List.filter_sublist
  refine ⟨fun x => ?_, fun q hq z => ?_, ?_, h.keys.sublist (hsub.map _), fun q hq => h.low q (hsub.subset hq), fun q hq => h.slot q (hsub.subset hq)⟩
  · by_cases e : x = p.1
    · subst e
      rw [has_del_same]
      cases hh : hasP (M.filter fun q => !decide (q.1 = p.1)) p.1 with
      | false => rfl
      | true =>
        obtain ⟨q, hq, e⟩ := List.mem_map.1 (hasP_mem.1 hh)
        have := (List.mem_filter.1 hq).2
        simp [e] at this
    · rw [has_del_other (litU_ne e), h.has, Bool.eq_iff_iff, hasP_mem, hasP_mem]
      unfold keysP
      rw [List.mem_map, List.mem_map]
      constructor
      · rintro ⟨q, hq, rfl⟩; exact ⟨q, List.mem_filter.2 ⟨hq, by simpa using e⟩, rfl⟩
      · rintro ⟨q, hq, rfl⟩; exact ⟨q, (List.mem_filter.1 hq).1, rfl⟩
  · have hq2 := List.mem_filter.1 hq
    have e : q.1 ≠ p.1 := by simpa using hq2.2
    rw [atKey_del_other (litU_ne e)]
    exact h.val q hq2.1 z
  · have h1 := size_del (k := .int .u16 (p.1 : Int)) ht
    have h2 : Maps.has D (.int .u16 (p.1 : Int)) = true := by rw [h.has, hasP_mem]; exact List.mem_map.2 ⟨p, hp, rfl⟩
    rw [h2, if_pos rfl, h.size] at h1
    have := del_len h.keys hp
    omega
theorem MapD.put {D : DataW Unit} {M : List (Nat × Int)} (h : MapD D M) (ht : Tidy D) {x : Nat} {s : Int} (hx : x < 65536) (hn : hasP M x = false) (hs : 0 ≤ s ∧ s < 32) : MapD (D.put (.int .u16 (x : Int)) (.lit (.int .i64 s))) (M ++ [(x, s)]) := by
  refine ⟨fun y => ?_, fun q hq z => ?_, ?_, ?_, ?_, ?_⟩
  · by_cases e : y = x
    · subst e
      rw [has_put_same ht.isMap (isKeyU _)]
      simp [hasP]
    · rw [has_put_other (litU_ne e), h.has]
      have : ¬ x = y := fun h => e h.symm
      simp [hasP, this]
  · rcases List.mem_append.1 hq with e | e
    · have hne : q.1 ≠ x := by
        intro e2
        have : hasP M x = true := hasP_mem.2 (List.mem_map.2 ⟨q, e, e2⟩)
        rw [hn] at this
        cases this
      rw [atKey_put_other (litU_ne hne)]
      exact h.val q e z
    · simp at e
      subst e
      exact atKey_put_same ht.isMap (isKeyU _) _ _
  · rw [size_put ht, h.has, hn, h.size]
    simp
  · unfold keysP
    rw [List.map_append, List.nodup_append]
    refine ⟨h.keys, by simp, ?_⟩
    intro a ha b hb e
    simp at hb
    have : hasP M x = true := hasP_mem.2 (by rw [← hb, ← e]; exact ha)
    rw [hn] at this
    cases this
  · intro q hq
    rcases List.mem_append.1 hq with e | e
    · exact h.low q e
    · simp at e; subst e; exact hx
  · intro q hq
    rcases List.mem_append.1 hq with e | e
    · exact h.slot q e
    · simp at e; subst e; exact hs

/-- A map of the table turns, and what is out with it. -/
theorem PTab.turn {w w' : World} {tb : Nat} {ms : List Nat} {n : Nat} {L L' : List Ou} {i : Nat} (h : PTab w tb ms n L) (hi : i < ms.length) (hc : Chg [ms[i]] w w') (hm : MapU w' ms[i] (outsP L' (i : Int)))
    (hok : OkO n L') (ho : ∀ j : Nat, j ≠ i → outsP L' (j : Int) = outsP L (j : Int)) : PTab w' tb ms n L' := by
  obtain ⟨es, clock, hb⟩ := (h.maps i hi).map
  have hodd : Odd [ms[i]] w := by
    intro k hk c t f e
    simp at hk
    subst hk
    rw [hb] at e
    cases e
  obtain ⟨g, h1, h2⟩ := h.head
  refine ⟨⟨g, hc.keep h1 ?_, hc.keep h2 ?_⟩, h.len, h.nd, ?_, hok, h.n1, h.n9⟩
  · intro hk; rcases hodd _ hk _ _ _ h1 with e | e | e <;> exact absurd e (by decide)
  · intro hk; rcases hodd _ hk _ _ _ h2 with e | e | e <;> exact absurd e (by decide)
  · intro j hj
    by_cases e : j = i
    · subst e; exact hm
    · rw [ho j e]
      refine (h.maps j hj).chg hc ?_
      intro hk
      simp at hk
      exact e ((List.getElem_inj h.nd).1 hk)
theorem chg_one {w w' : World} {ms : List Nat} {i : Nat} (hi : i < ms.length) (hc : Chg [ms[i]] w w') : Chg ms w w' := hc.mono (by intro x hx; simp at hx; subst hx; exact List.getElem_mem hi)

theorem same_u16 (y x : Nat) : (Lit.int .u16 (y : Int)).sameKey (.int .u16 (x : Int)) = decide (y = x) := by
  by_cases e : y = x
  · subst e; rw [WideAt.sameKey_self (isKeyU _)]; simp
  · rw [sameKey_ne (litU_ne e)]; simp [e]

/-- What holds in the range over a map. -/
def FreeRel (M : List (Nat × Int)) (s : Int) (m r : Nat) (w : World) (v : Value) (wr : World) : Prop :=
  ∃ (left : Lit → Bool) (cnt : Nat) (D : DataW Unit) (c : Nat), v = .int .i64 (c : Nat) ∧ wr.ranges Try.prog 34 (plainElem (H := Unit) Try.prog 3) m r M.length D left cnt ∧ MapD D (metP M s fun x => left (.int .u16 (x : Int))) ∧
    c + (metP M s fun x => left (.int .u16 (x : Int))).length = M.length ∧ Chg [m] w wr ∧ Tidy D
theorem entry_of {M : List (Nat × Int)} {D : DataW Unit} (h : MapD D M) {x c : Int} (hwx : (Lit.int .u16 x).wf = true) (hat : ∀ zd, D.atKey (.int .u16 x) zd = .lit (.int .i64 c)) : ∃ p ∈ M, x = (p.1 : Int) ∧ c = p.2 := by
  obtain ⟨y, rfl⟩ : ∃ y : Nat, x = y := ⟨x.toNat, by
    simp [Lit.wf, IntKind.min, IntKind.max, IntKind.signed, IntKind.bits] at hwx
    omega⟩
  have h1 : has D (.int .u16 (y : Int)) = true := has_true_of_atKey hat
  rw [h.has] at h1
  obtain ⟨p, hp, e⟩ := List.mem_map.1 (hasP_mem.1 h1)
  refine ⟨p, hp, by rw [← e], ?_⟩
  have h2 := h.val p hp (.lit (.int .i64 0))
  rw [e, hat] at h2
  injection h2 with h2
  injection h2
theorem left_step (left : Lit → Bool) (p : Nat) : (fun x : Nat => (fun z : Lit => left z && !z.sameKey (.int .u16 (p : Int))) (.int .u16 (x : Int))) = fun x : Nat => (fun x : Nat => left (.int .u16 (x : Int))) x && !decide (x = p) := by
  funext x
  show (left _ && !(Lit.int .u16 (x : Int)).sameKey (.int .u16 (p : Int))) = _
  rw [same_u16]

set_option maxRecDepth 100000 in
theorem freeAt_in (tb : Nat) (ms : List Nat) (n : Nat) (L : List Ou) (w : World) (i : Nat) (s : Int) (c : Nat) (h : PTab w tb ms n L) (hi : i < ms.length) (hc : Hid (c = L.length - (freeO L s (i : Int)).length)) :
    Calls Try.prog 16 #[.pointer (some ⟨tb, 0, none⟩), .int .i64 s, .int .i64 (i : Nat)] w fun e w' => e = .returned (.int .i64 (c : Nat)) ∧ PTab w' tb ms n (freeO L s (i : Int)) ∧ Chg ms w w' := by
  have hat := at_in tb ms n L w i h hi
  have hM := h.maps i hi
  obtain ⟨es0, clock0, hb0⟩ := hM.map
  have hkeys := h.ok.keys (i : Int)
  have hlen : (outsP L (i : Int)).length ≤ 65536 := h.ok.len_le (i : Int)
  have fin : ∀ w' m, m = ms[i] → Chg [m] w w' → MapU w' m ((outsP L (i : Int)).filter fun p => !decide (p.2 = s)) → PTab w' tb ms n (freeO L s (i : Int)) ∧ Chg ms w w' := by
    rintro w' m rfl hc' hm'
    refine ⟨h.turn hi hc' ?_ (h.ok.sub (freeO_sub L s i)) ?_, chg_one hi hc'⟩
    · rw [outs_free, if_pos rfl]; exact hm'
    · intro j hj
      rw [outs_free, if_neg (by omega)]
  have hcl : c = (outsP L (i : Int)).length - ((outsP L (i : Int)).filter fun p => !decide (p.2 = s)).length := by rw [hc.out, free_outs_len]
  obtain ⟨D0, hown, hD⟩ := hM
  obtain ⟨M, hMe⟩ : ∃ M, M = outsP L (i : Int) := ⟨_, rfl⟩
  obtain ⟨m, hm⟩ : ∃ m, m = ms[i] := ⟨_, rfl⟩
  rw [← hMe] at hD hown hkeys fin hcl hlen
  rw [← hm] at hown hat
  have FIN := Lib.hid (fun w' => fin w' m hm)
  have HCL := Lib.hid hcl
  clear fin hm hMe h hi hc hb0 hcl
  have hst : MapD D0 (metP M s fun x => has D0 (.int .u16 (x : Int))) ∧ 0 + (metP M s fun x => has D0 (.int .u16 (x : Int))).length = M.length := by
    rw [metP_start M s _ (fun p hp => by rw [hD.has, hasP_mem]; exact List.mem_map.2 ⟨p, hp, rfl⟩)]
    exact ⟨hD, by omega⟩
  have HST := Lib.hid hst
  clear hst hD
  go_enter Try.func16, Try.ntmps16
  go_wp2_with fail
  refine hat.mono ?_
  rintro e w1 ⟨rfl, rfl⟩
  have htidy := hown.tidy lawU
  go_wp2_with (first
    | (at_range; refine wpList_range_own _ rfl _ 69 rfl 34 3 lawU Try.underlying69 _ m M.length _ rfl hown ?_; intro w0 hrg0 hg0 hs0)
    | go_in)
  go_frame
  go_loopw [8] (FreeRel M s m w.heap.size w) (fun _ wr => wr.rangeLeft m w.heap.size)
  case atStart => exact ⟨_, _, D0, 0, rfl, hrg0, HST.out.1, HST.out.2, (Chg.refl [m] w).grown hg0 (fun k hk => by cases hk), htidy⟩
  case round =>
    clear hrg0 HST
    obtain ⟨left, cnt, D, c1, rfl, hrg, hD, hlc, hck, htd⟩ := hrel
    have HD := Lib.hid hD
    have HLC := Lib.hid hlc
    have hcle : c1 ≤ 65536 := by omega
    clear hD hlc
    go_wp2_with (first
      | (at_next; refine wpList_next_ranges_ii _ rfl _ rfl 34 3 .u16 .i64 lawU Try.underlying34 Try.underlying3 m w.heap.size M.length _ _ _ rfl hrg ?_ ?_)
      | go_in)
    · intro _ hl0
      have hend := metP_end M s (fun x => left (.int .u16 (x : Int))) (fun x => hl0 _)
      have HEND := Lib.hid hend
      clear hend hl0
      go_wp2
      go_ret
      have h1 := HD.out
      have h2 := HLC.out
      rw [HEND.out] at h1 h2
      have h3 := List.length_filter_le (fun p : Nat × Int => !decide (p.2 = s)) M
      have h4 : c1 = c := by rw [HCL.out]; omega
      subst h4
      exact ⟨rfl, FIN.out wr hck (MapU.mk hrg.owns h1)⟩
    · intro x c2 w2 cnt1 hwx hwc hlx hat2 hrg1 hlt hg1 hs1 hen
      obtain ⟨p, hp, ex, ec⟩ := entry_of HD.out hwx hat2
      subst ex; subst ec
      have hpM : p ∈ M := (List.mem_filter.1 hp).1
      have hck2 : Chg [m] w w2 := hck.grown hg1 (fun k hk => by cases hk; exact .inr (Nat.le_refl _))
      have HP := Lib.hid hp
      have HPM := Lib.hid hpM
      have hstep := left_step left p.1
      have HSTEP := Lib.hid hstep
      clear hp hpM hat2 hlx hwx hwc hstep
      by_cases hs : p.2 = s
      · have t1 : (p.2 == s) = true := by simpa using hs
        have hsame := metP_same (s := s) (left := fun x => left (.int .u16 (x : Int))) hkeys HPM.out hs
        have HSAME := Lib.hid hsame
        have HS := Lib.hid hs
        clear hs hsame
        have hlp : p.1 < 65536 := HD.out.low p HP.out
        go_wp2_with (first
          | (at_delete; refine wpList_delete_ranges _ rfl _ _ 69 34 rfl 3 lawU Try.underlying69 _ m w.heap.size M.length _ _ _ rfl hrg1 _ _ rfl (key_u16 hlp) ?_; intro w3 cnt2 hrg2 hle hturn; go_frame)
          | go_in)
        rw [strike_twice] at hrg2
        go_roundw
        case rel =>
          refine ⟨_, cnt2, _, c1 + 1, by go_num, hrg2, ?_, ?_, hck2.trans ?_, htd.del _⟩
          · rw [HSTEP.out, HSAME.out]; exact HD.out.del htd HP.out
          · rw [HSTEP.out, HSAME.out]
            have h1 := del_len HD.out.keys HP.out
            have h2 := HLC.out
            omega
          · have hg := hturn.grown
            exact ⟨hg.os, hg.tape, hg.output, hg.size, fun k hk hs => hg.block k hk (by simp at hs; simpa using hs)⟩
        case measure => rw [hrg2.left_eq, hrg.left_eq]; omega
      · have t1 : (p.2 == s) = false := by simpa using hs
        have hother := metP_other (s := s) (left := fun x => left (.int .u16 (x : Int))) hkeys HPM.out hs
        have HOTHER := Lib.hid hother
        clear hs hother
        go_wp2
        go_roundw
        case rel =>
          refine ⟨_, cnt1, D, c1, rfl, hrg1, ?_, ?_, hck2, htd⟩
          · rw [HSTEP.out, HOTHER.out]; exact HD.out
          · rw [HSTEP.out, HOTHER.out]; exact HLC.out
        case measure => rw [hrg1.left_eq, hrg.left_eq]; exact hlt

theorem freeAt_none (w : World) (p : Option Addr) (u s : Int) (hat : Calls Try.prog 30 #[.pointer p, .int .i64 u] w fun e w' => e = .returned (.map none) ∧ w = w') :
    Calls Try.prog 16 #[.pointer p, .int .i64 s, .int .i64 u] w fun e w' => e = .returned (.int .i64 0) ∧ Chg [] w w' := by
  have hrg := run_range_nilMap (P := Try.prog) w 69 34 3 Try.underlying69
  have hnx : ∀ ty, (Instr.next (.pointer (some ⟨w.heap.size, 0, none⟩)) false ty).run Try.prog (w.alloc (.mapIter none 0 #[] 0)) = _ := fun ty => run_next_nilMap w ty 0 0 #[]
  go_enter Try.func16, Try.ntmps16
  go_wp2_with fail
  refine hat.mono ?_
  rintro e w1 ⟨rfl, rfl⟩
  go_wp2
  refine wp_loop_rounds 1 ?_
  rw [rounds_succ]
  go_wp2
  go_ret
  exact ⟨rfl, (Chg.refl _ _).alloc _⟩
theorem freeAt_any (tb : Nat) (ms : List Nat) (n : Nat) (L : List Ou) (w : World) (u s : Int) (c : Nat) (h : PTab w tb ms n L) (hc : Hid (c = L.length - (freeO L s u).length)) :
    Calls Try.prog 16 #[.pointer (some ⟨tb, 0, none⟩), .int .i64 s, .int .i64 u] w fun e w' => e = .returned (.int .i64 (c : Nat)) ∧ PTab w' tb ms n (freeO L s u) ∧ Chg ms w w' := by
  by_cases hu : u < 0 ∨ (n : Int) ≤ u
  · have e0 : c = 0 := by rw [hc.out, freeO_out h.ok hu]; omega
    rw [freeO_out h.ok hu, e0]
    refine (freeAt_none w _ u s (at_out tb ms n L w u h hu)).mono ?_
    rintro e w' ⟨rfl, hc'⟩
    exact ⟨rfl, h.same hc', hc'.mono (by simp)⟩
  · obtain ⟨i, rfl⟩ : ∃ i : Nat, u = i := ⟨u.toNat, by omega⟩
    exact freeAt_in tb ms n L w i s c h (by have := h.len; omega) hc

def FreeLoop (L : List Ou) (s : Int) (tb : Nat) (ms : List Nat) (n : Nat) (w : World) (v i : Value) (wr : World) : Prop :=
  ∃ j : Nat, j ≤ n ∧ i = .int .i64 (j : Nat) ∧ v = .int .i64 ((L.length - (freeK L s j).length : Nat) : Int) ∧ PTab wr tb ms n (freeK L s j) ∧ Chg ms w wr
theorem free_any (tb : Nat) (ms : List Nat) (n : Nat) (L : List Ou) (w : World) (s : Int) (c : Nat) (h : PTab w tb ms n L) (hc : Hid (c = L.length - (freeA L s).length)) (hL : L.length ≤ 1000000) :
    Calls Try.prog 17 #[.pointer (some ⟨tb, 0, none⟩), .int .i64 s] w fun e w' => e = .returned (.int .i64 (c : Nat)) ∧ PTab w' tb ms n (freeA L s) ∧ Chg ms w w' := by
  obtain ⟨g, h1, h2⟩ := h.head
  have h9 := h.n9
  have c0 : w.cell? ⟨tb, 0, none⟩ = some (.slice (some ⟨g, 0, none⟩) n n) := cell_of h1
  have hok := h.ok
  have hz := freeK_zero hok s
  have HZ := Lib.hid hz
  have h0 := h
  clear h1 h2 h hz
  go_enter Try.func17, Try.ntmps17
  go_wp2
  go_loopw [5, 14] (FreeLoop L s tb ms n w) (fun _ i _ => n - (intOf i).toNat)
  case atStart => exact ⟨0, Nat.zero_le _, rfl, by rw [HZ.out, Nat.sub_self]; rfl, by rw [HZ.out]; exact h0, Chg.refl _ _⟩
  case round =>
    obtain ⟨j, hj, rfl, rfl, ht, hck⟩ := hrel
    obtain ⟨d, hd⟩ : ∃ d, d = L.length - (freeK L s j).length := ⟨_, rfl⟩
    rw [← hd]
    have hdle : d ≤ 1000000 := by omega
    have HDD := Lib.hid hd
    clear hd
    by_cases hlt : j < n
    · have hle := freeK_le L s j
      obtain ⟨c1, hc1⟩ : ∃ c1, c1 = (freeK L s j).length - (freeO (freeK L s j) s (j : Int)).length := ⟨_, rfl⟩
      have hsucc := freeK_succ hok s j
      have hle2 := freeO_le (freeK L s j) s (j : Int)
      have hnew : d + c1 = L.length - (freeK L s (j + 1)).length := by rw [← hsucc, HDD.out, hc1]; omega
      have hc1le : c1 ≤ 1000000 := by omega
      have HC1 := Lib.hid hc1
      have HNEW := Lib.hid hnew
      have HSUCC := Lib.hid hsucc
      clear hc1 hnew hsucc hle hle2 HDD
      go_wp2_with fail
      refine (freeAt_any tb ms n (freeK L s j) _ (j : Int) s c1 ht HC1).mono ?_
      rintro e w1 ⟨rfl, ht1, hck1⟩
      go_wp2
      go_roundw
      case rel => exact ⟨j + 1, by omega, by go_num, by rw [← HNEW.out]; go_num, by rw [← HSUCC.out]; exact ht1, hck.trans hck1⟩
      case measure => simp [intOf] <;> omega
    · obtain rfl : j = n := by omega
      have hall := freeK_all hok s
      rw [hall] at ht HDD
      have hcd : c = d := by rw [hc.out, HDD.out]
      clear hall
      subst hcd
      clear HDD
      go_wp2
      go_ret
      exact ⟨rfl, ht, hck⟩
theorem free_nil (w : World) (s : Int) : Calls Try.prog 17 #[.pointer none, .int .i64 s] w fun e w' => e = .returned (.int .i64 0) ∧ w = w' := by
  go_enter Try.func17, Try.ntmps17
  go_wp2
  go_ret
  exact ⟨rfl, rfl⟩

end Go.Proofs.Yteehenajchdgaaa
