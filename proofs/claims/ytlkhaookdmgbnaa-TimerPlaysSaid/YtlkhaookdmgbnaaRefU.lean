/- The walks of the document's timers: Copy, Put, first, Next, Due. -/
import Derived.Test.YtlkhaookdmgbnaaRefT
namespace Go.Proofs.Ytlkhaookdmgbnaa
open Go.RowKit

theorem ownRT {base : Nat} {w : World} {v : Value} {l : List It} {n : Nat} (h : w.ownsRow base 72 2 v (0 + l.length) ([] ++ l.flatMap thV)) (hn : n = l.length) : ∃ a c, v = .slice a n c ∧ OwnT base w (.slice a n c) l := by
  subst hn
  rw [Nat.zero_add, List.nil_append] at h
  obtain ⟨a, c, rfl⟩ := R.OwnR.len (t := 72) (sz := 2) (f := thV) h
  exact ⟨a, c, rfl, h⟩
section
variable (q : Nat) (G : List Nat) (l : List It) (w : World)
set_option maxHeartbeats 1000000 in
theorem rcopy_any (h : RefT w q G l) :
    Calls Try.prog 23 #[.pointer (some ⟨q, 0, none⟩)] w fun e w' => ∃ q' G', e = .returned (.pointer (some ⟨q', 0, none⟩)) ∧ w.heap.size ≤ q' ∧ (∀ g ∈ G', w.heap.size ≤ g) ∧ RefT w' q' G' l ∧ Chg [] w w' := by
  have hq := h.lt
  obtain ⟨h0, v, h1, h2, h3⟩ := h
  obtain ⟨av, cv, rfl⟩ := h2.len
  have k1 : w.cell? ⟨q, 0, none⟩ = some (.slice av l.length cv) := cell_of h1
  obtain ⟨i0, hi0, hz0, hz1, hz2⟩ := info_parts Try.elemThing
  have hnew : (w.alloc (.cells #[] 72)).ownsRow w.heap.size 72 2 (.slice (some ⟨w.heap.size, 0, none⟩) 0 0) 0 [] := R.OwnR.made (α := It) _ _ thV w
  have hsrc := (h2.same ((Chg.refl [] w).alloc (.cells #[] 72))).src
  have hfl := R.flat_len thV 2 thV_len l
  have HNEW := Lib.hid hnew
  have HSRC := Lib.hid hsrc
  have HFL := Lib.hid hfl
  clear h1 h2 h3 hnew hsrc hfl
  go_enter Try.func23, Try.ntmps23
  go_wp2_with (at_builtin; go_must (refine wpList_append_src rfl _ _ 47 rfl w.heap.size 72 i0 (.agg #[.int .i64 0, .int .i64 0]) 2 16 Try.underlying47 hi0 hz0 hz1 hz2 rfl (by decide) (.slice (some ⟨w.heap.size, 0, none⟩) 0 0) 0 [] rfl HNEW.out av l.length cv (l.flatMap thV) rfl HSRC.out.1 HSRC.out.2.1 HFL.out HSRC.out.2.2 (thV_one l) (by unfold maxLen; omega) (by omega) (by simp) ?_); go_must (intro v1 w1 hown1 hg1 _; obtain ⟨a1, c1, rfl, hO⟩ := ownRT hown1 rfl))
  go_ret
  have hc1 : Chg [] w w1 := ((Chg.refl [] w).alloc (.cells #[] 72)).grown hg1 (fun k hk => by simp [Value.ownBlock] at hk; right; omega)
  refine ⟨_, (match (Value.slice a1 l.length c1).ownBlock with | some g => [g] | none => []), rfl, hc1.size, ?_, ⟨h0, _, heap_new _ _, (hO.same ((Chg.refl [] w1).alloc _)).low (Nat.zero_le _), ?_⟩, hc1.alloc _⟩
  · intro g hg
    split at hg
    · rename_i g' hg'
      simp at hg
      subst hg
      exact (hO.blk _ hg').1
    · simp at hg
  · intro g hg; rw [hg]; simp

set_option maxHeartbeats 2000000 in
theorem rput_any (id due : Int) (p : Nat) (h : RefT w q G l) (hl : l.length ≤ 900) :
    Calls Try.prog 24 #[.pointer (some ⟨q, 0, none⟩), .int .i64 id, .int .i64 due] w fun e w' => e = .returned (.tuple #[]) ∧ (∃ G', RefT w' q G' (putL l id due p) ∧ ∀ g ∈ G', w.heap.size ≤ g) ∧ Chg [q] w w' := by
  have hq := h.lt
  obtain ⟨i0, hi0, hz0, hz1, hz2⟩ := info_parts Try.elemThing
  have hdl := delL_le l id
  go_enter Try.func24, Try.ntmps24
  go_wp2_with fail
  refine (rdrop_any q G l w id _ h (Lib.hid rfl)).mono ?_
  rintro e w1 ⟨rfl, ⟨G1, ⟨h0, v, h1, h2, h3⟩, hG1⟩, hc1⟩
  obtain ⟨m, hm⟩ : ∃ m, m = delL l id := ⟨_, rfl⟩
  have hput : putL l id due p = m ++ [⟨id, due, p⟩] := by rw [hm]; rfl
  rw [← hm] at h0 h2 hdl
  have HPUT := Lib.hid hput
  obtain ⟨av, cv, rfl⟩ := h2.len
  have k1 : w1.cell? ⟨q, 0, none⟩ = some (.slice av m.length cv) := cell_of h1
  have hnew : (w1.alloc (.cells #[] 72)).ownsRow w1.heap.size 72 2 (.slice (some ⟨w1.heap.size, 0, none⟩) 0 0) 0 [] := R.OwnR.made (α := It) _ _ thV w1
  have hsrc := (h2.same ((Chg.refl [] w1).alloc (.cells #[] 72))).src
  have hfl := R.flat_len thV 2 thV_len m
  have HNEW := Lib.hid hnew
  have HSRC := Lib.hid hsrc
  have HFL := Lib.hid hfl
  have H1 := Lib.hid h1
  have hsz := hc1.size
  have hq1 : q < w1.heap.size := by omega
  clear h h1 h2 h3 hnew hsrc hfl hm hput
  go_wp2_with (at_builtin; go_must (first
    | (refine wpList_append_src rfl (.tmp 10) (.tmp 14) 47 rfl w1.heap.size 72 i0 (.agg #[.int .i64 0, .int .i64 0]) 2 16 Try.underlying47 hi0 hz0 hz1 hz2 rfl (by decide) (.slice (some ⟨w1.heap.size, 0, none⟩) 0 0) 0 [] rfl HNEW.out av m.length cv (m.flatMap thV) rfl HSRC.out.1 HSRC.out.2.1 HFL.out HSRC.out.2.2 (thV_one m) (by unfold maxLen; omega) (by omega) (by simp) ?_; intro v2 w2 hown2 hg2 _; obtain ⟨a2, c2, rfl, hO⟩ := ownRT hown2 rfl; have HO := Lib.hid hO; have hc2 : Chg [] w1 w2 := ((Chg.refl [] w1).alloc (.cells #[] 72)).grown hg2 (fun k hk => (by simp [Value.ownBlock] at hk; right; omega)); clear hO hown2)
    | (refine wpList_append_own _ rfl (.tmp 15) (.tmp 19) 47 rfl w1.heap.size 72 i0 (.agg #[.int .i64 0, .int .i64 0]) 2 16 Try.underlying47 hi0 hz0 hz1 hz2 rfl (by decide) _ m.length (m.flatMap thV) rfl (World.ownsRow.alloc HO.out _) ⟨w2.heap.size, 0, none⟩ 1 1 (thV ⟨id, due, p⟩) rfl rfl (cell_two_new _ _ _ _) (by simp [thV, Value.oneCell']) (by unfold maxLen; omega) (by omega) (by have := hc2.size; simp; omega) ?_; intro v3 w3 hown3 hg3 _; obtain ⟨a3, c3, rfl⟩ := owns_len hown3; have hc3 : Chg [] w1 w3 := (hc2.alloc (.cells #[.int .i64 id, .int .i64 due] 72)).grown hg3 (fun k hk => .inr (HO.out.blk k hk).1); have hq3 := hc3.keep H1.out (by simp); have f3 : w3.frozen? ⟨q, 0, none⟩ = false := free_of hq3; have k3 := cell_of (i := 0) hq3; have HQ3 := Lib.hid hq3; clear hq3)))
  go_end0
  have hO3 : OwnT w1.heap.size w3 (.slice a3 (m.length + 1) c3) (m ++ [⟨id, due, p⟩]) := R.OwnR.snoc hown3
  have hne : ∀ g, (Value.slice a3 (m.length + 1) c3).ownBlock = some g → g ∉ [q] := fun g hg => by
    have := (hO3.blk g hg).1
    simp; omega
  rw [HPUT.out]
  refine ⟨rfl, ⟨(match (Value.slice a3 (m.length + 1) c3).ownBlock with | some g => [g] | none => []), ⟨by simp; omega, _, by rw [heap_set HQ3.out]; rfl, (hO3.chg (Chg.set1 _ _ _ _) hne).low (Nat.zero_le _), ?_⟩, ?_⟩, (hc1.trans (hc3.mono (by simp))).trans (Chg.set1 _ _ _ _)⟩
  · intro g hg; rw [hg]; simp
  · intro g hg
    split at hg
    · rename_i g' hg'
      simp at hg
      subst hg
      have := (hO3.blk _ hg').1
      omega
    · simp at hg

/-- The first one of the least. -/
def FirstAt (l : List It) (j : Nat) (b : Nat) : Prop := b < j ∧ ∃ x, l[b]? = some x ∧ (∀ i y, i < j → l[i]? = some y → x.due ≤ y.due) ∧ ∀ i y, i < b → l[i]? = some y → x.due < y.due
def FirstR (l : List It) (b i : Value) : Prop := ∃ j : Nat, j ≤ l.length ∧ i = .int .i64 (j : Nat) ∧ ((j = 0 ∧ b = .int .i64 (-1)) ∨ ∃ k : Nat, b = .int .i64 (k : Nat) ∧ FirstAt l j k)
theorem first_none (h : RefT w q G []) :
    Calls Try.prog 31 #[.pointer (some ⟨q, 0, none⟩)] w fun e w' => e = .returned (.int .i64 (-1)) ∧ w = w' := by
  obtain ⟨h0, v, h1, h2, h3⟩ := h
  obtain ⟨av, cv, rfl⟩ := h2.len
  have k1 : w.cell? ⟨q, 0, none⟩ = some (.slice av 0 cv) := cell_of h1
  clear h1 h2 h3
  go_enter Try.func31, Try.ntmps31
  go_wp2
  refine wp_loop_rounds 1 ?_
  rw [rounds_succ]
  go_wp2
  go_ret
  exact ⟨rfl, rfl⟩
set_option maxHeartbeats 1000000 in
theorem first_some (h : RefT w q G l) (hl : 0 < l.length) :
    Calls Try.prog 31 #[.pointer (some ⟨q, 0, none⟩)] w fun e w' => ∃ k : Nat, e = .returned (.int .i64 (k : Nat)) ∧ FirstAt l l.length k ∧ Chg [] w w' := by
  obtain ⟨h0, v, h1, h2, h3⟩ := h
  obtain ⟨g, c, rfl, _, _, hx⟩ := h2.cells thV_len hl
  have k1 : w.cell? ⟨q, 0, none⟩ = some (.slice (some ⟨g, 0, none⟩) l.length c) := cell_of h1
  have HX := Lib.hid hx
  clear h1 h2 h3 hx
  go_enter Try.func31, Try.ntmps31
  go_wp2
  go_loopw [3, 4] (fun b i wr => FirstR l b i ∧ Chg [] w wr) (fun _ i _ => l.length - (intOf i).toNat)
  case atStart => exact ⟨⟨0, Nat.zero_le _, rfl, .inl ⟨rfl, rfl⟩⟩, Chg.refl _ _⟩
  case round =>
    obtain ⟨⟨j, hj, rfl, hb⟩, hck⟩ := hrel
    have k2 := hck.cell k1 (by simp)
    by_cases hlt : j < l.length
    · obtain ⟨x, hxj⟩ : ∃ x, x = l[j] := ⟨_, rfl⟩
      have d1 := hck.cell (HX.out j hlt 1 (.int .i64 x.due) (by rw [← hxj]; rfl)) (by simp)
      have hgj : l[j]? = some x := by rw [List.getElem?_eq_getElem hlt, hxj]
      have HGJ := Lib.hid hgj
      clear hxj hgj
      rcases hb with ⟨rfl, rfl⟩ | ⟨k, rfl, hk, y, hky, hm1, hm2⟩
      · go_wp2_with fail
        go_quiet (fail)
        go_wp2
        go_roundw
        case rel =>
          refine ⟨⟨1, by omega, by go_num, .inr ⟨0, rfl, by omega, x, HGJ.out, ?_, fun i y hi => by omega⟩⟩, hck.drewN _⟩
          intro i y hi hy
          obtain rfl : i = 0 := by omega
          rw [HGJ.out] at hy
          cases hy
          exact Int.le_refl _
        case measure => simp [intOf] <;> omega
      · have hkl : k < l.length := by omega
        have d2 := hck.cell (HX.out k hkl 1 (.int .i64 y.due) (by rw [List.getElem?_eq_getElem hkl] at hky; injection hky with e; rw [e]; rfl)) (by simp)
        have tk : decide ((k : Int) < 0) = false := by simp
        have HKY := Lib.hid hky
        have HM1 := Lib.hid hm1
        have HM2 := Lib.hid hm2
        clear hky hm1 hm2
        by_cases hd : x.due < y.due
        · have t1 : decide (x.due < y.due) = true := by simpa using hd
          have HDD := Lib.hid hd
          clear hd
          go_wp2_with fail
          go_quiet (fail)
          go_wp2
          go_roundw
          case rel =>
            have hd := HDD.out
            refine ⟨⟨j + 1, by omega, by go_num, .inr ⟨j, rfl, by omega, x, HGJ.out, ?_, ?_⟩⟩, hck.drewN _⟩
            · intro i z hi hz
              by_cases e : i = j
              · subst e; rw [HGJ.out] at hz; cases hz; exact Int.le_refl _
              · have := HM1.out i z (by omega) hz; omega
            · intro i z hi hz
              have := HM1.out i z hi hz; omega
          case measure => simp [intOf] <;> omega
        · have t1 : decide (x.due < y.due) = false := by simpa using hd
          have HDD := Lib.hid hd
          clear hd
          go_wp2_with fail
          go_quiet (fail)
          go_wp2
          go_roundw
          case rel =>
            have hd := HDD.out
            refine ⟨⟨j + 1, by omega, by go_num, .inr ⟨k, rfl, by omega, y, HKY.out, ?_, HM2.out⟩⟩, hck.drewN _⟩
            intro i z hi hz
            by_cases e : i = j
            · subst e; rw [HGJ.out] at hz; cases hz; omega
            · exact HM1.out i z (by omega) hz
          case measure => simp [intOf] <;> omega
    · obtain rfl : j = l.length := by omega
      rcases hb with ⟨e, _⟩ | ⟨k, rfl, hF⟩
      · omega
      · have HF := Lib.hid hF
        clear hF
        go_wp2
        go_ret
        exact ⟨k, rfl, HF.out, hck⟩
end

end Go.Proofs.Ytlkhaookdmgbnaa
