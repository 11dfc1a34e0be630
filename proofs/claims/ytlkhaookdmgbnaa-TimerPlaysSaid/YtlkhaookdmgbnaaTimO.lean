/- Timers: the walk of Due. -/
import Derived.Test.YtlkhaookdmgbnaaTimJ
import Derived.Test.YtlkhaookdmgbnaaIntsZ
import Derived.Test.YtlkhaookdmgbnaaOwn
namespace Go.Proofs.Ytlkhaookdmgbnaa
open Go.RowKit

/-- The slice v is a row of the call's own that reads as the numbers l. -/
def OwnZ (base : Nat) (w : World) (v : Value) (l : List Int) : Prop := w.ownsRow base 3 1 v l.length (l.map fun x => Value.int .i64 x)
theorem OwnZ.nil (base : Nat) (w : World) : OwnZ base w (.slice none 0 0) [] := ⟨rfl, .inl ⟨rfl, rfl⟩⟩
theorem OwnZ.snoc {base : Nat} {w : World} {v : Value} {l : List Int} {y : Int} (h : w.ownsRow base 3 1 v (l.length + 1) (l.map (fun x => Value.int .i64 x) ++ [.int .i64 y])) : OwnZ base w v (l ++ [y]) := by
  have e : (l ++ [y]).map (fun x => Value.int .i64 x) = l.map (fun x => Value.int .i64 x) ++ [.int .i64 y] := by simp
  unfold OwnZ
  rw [e, List.length_append]
  exact h
theorem OwnZ.row {base : Nat} {w : World} {v : Value} {l : List Int} (h : OwnZ base w v l) : RowZ .i64 w v l := by
  obtain ⟨h0, h⟩ := h
  rcases h with ⟨rfl, e⟩ | ⟨g, cap, cur, rfl, _, hb, h1, h2, h3, h4⟩
  · exact .inl ⟨List.length_eq_zero_iff.1 e, none, 0, rfl⟩
  · have e : cur = (l.map (fun x => Value.int .i64 x) ++ cur.toList.drop (l.length * 1)).toArray := by
      rw [← h4, List.take_append_drop]
    rw [e] at hb
    exact RowZ.of_heap hb
theorem OwnZ.chg {S : List Nat} {w w' : World} {base : Nat} {v : Value} {l : List Int} (h : OwnZ base w v l) (hc : Chg S w w') (hS : ∀ x ∈ S, x < base) : OwnZ base w' v l := owns_chg h hc hS
theorem RowZ.chg {k : IntKind} {w w' : World} {v : Value} {l : List Int} (h : RowZ k w v l) (hc : Chg [] w w') : RowZ k w' v l := by
  rcases h with hh | ⟨r, c, hv, hx⟩
  · exact .inl hh
  · exact .inr ⟨r, c, hv, fun i hi => hc.cell (hx i hi) (by simp)⟩

def DueR (w : World) (tb p : Nat) (F : List Nat) (L : List It) (now : Int) (v : Value) (wr : World) : Prop :=
  ∃ l M, OwnZ w.heap.size wr v l ∧ TimersAt wr tb F M p ∧ Chg (tb :: F) w wr ∧ l ++ dueL M now = dueL L now ∧ restL M now = restL L now ∧ l.length + M.length = L.length
def DueAt (w : World) (tb p : Nat) (F : List Nat) (L : List It) (now : Int) (e : Ending) (w' : World) : Prop :=
  ∃ v, e = .returned v ∧ OwnZ w.heap.size w' v (dueL L now) ∧ TimersAt w' tb F (restL L now) p ∧ Chg (tb :: F) w w'

set_option maxRecDepth 100000 in
set_option maxHeartbeats 4000000 in
theorem due_any (tb : Nat) (F : List Nat) (L : List It) (p : Nat) (now : Int) (w : World) (h : TimersAt w tb F L p) (hp : p ≤ 1000000) :
    Calls Try.prog 12 #[.pointer (some ⟨tb, 0, none⟩), .int .i64 now] w (DueAt w tb p F L now) := by
  obtain ⟨i0, hi0, hz0, hz1, hz2⟩ := info_parts Try.elemInt
  have hlow := h.low
  have hlt := h.lt
  have hLp := h.ok.len
  have HLOW : Hid (∀ x ∈ tb :: F, x < w.heap.size) := Lib.hid (by intro x hx; rcases List.mem_cons.1 hx with e | e; omega; exact hlow x e)
  clear hlow
  go_enter Try.func12, Try.ntmps12
  go_wp2_with fail
  go_loopw [5] (DueR w tb p F L now) (fun v _ => L.length - lenOf v)
  case atStart => exact ⟨[], L, OwnZ.nil _ _, h, Chg.refl _ _, rfl, rfl, by simp⟩
  case round =>
    clear h
    obtain ⟨l, M, hown, hT, hC, hd, hr, hl⟩ := hrel
    have HD := Lib.hid (And.intro hd (And.intro hr hl))
    obtain ⟨av, cv, hv⟩ := owns_len hown
    have hll : l.length ≤ 1000000 := by omega
    have HOWN := Lib.hid hown
    rw [hv] at HOWN ⊢
    clear hd hr hl hown hv
    by_cases hM : M.length = 0
    · have hM' : M = [] := List.length_eq_zero_iff.1 hM
      subst hM'
      go_wp2_with fail
      refine (next_none tb F p _ hT).mono ?_
      rintro e w1 ⟨rfl, n1, rfl⟩
      have HT := Lib.hid (hT.drewN n1)
      have HC := Lib.hid (hC.drewN n1)
      clear hT hC
      go_wp2
      go_ret
      obtain ⟨hd, hr, hl⟩ := HD.out
      refine ⟨_, rfl, ?_, ?_, HC.out⟩
      · rw [← hd]
        have : dueL [] now = [] := rfl
        rw [this, List.append_nil]
        exact OwnZ.chg HOWN.out ((Chg.refl [] _).drewN n1) (by simp)
      · rw [← hr]
        exact HT.out
    · obtain ⟨x, hmin, hnext⟩ := next_some tb F M p _ hT (by omega)
      by_cases hdue : x.due ≤ now
      · have t1 : decide (now < x.due) = false := by simp; omega
        have HS := Lib.hid (due_step hT.ok.rise hmin hT.ok.ids hdue)
        have HML := Lib.hid (delL_len hmin.1 hT.ok.ids)
        go_wp2_with fail
        refine hnext.mono ?_
        rintro e w1 ⟨rfl, n1, rfl⟩
        have hT1 := hT.drewN n1
        have HC1 := Lib.hid (hC.drewN n1)
        have HO1 : Hid (OwnZ w.heap.size (wr.drewN n1) (.slice av l.length cv) l) := Lib.hid (OwnZ.chg HOWN.out ((Chg.refl [] _).drewN n1) (by simp))
        clear hnext hT hC HOWN
        go_wp2_with fail
        refine (drop_some tb F M p x _ hT1 hmin.1 hp).mono ?_
        rintro e w2 ⟨rfl, hT2, hC2⟩
        have HT2 := Lib.hid hT2
        have HC2 : Hid (Chg (tb :: F) w w2) := Lib.hid (HC1.out.trans hC2)
        have HO2 : Hid (w2.ownsRow w.heap.size 3 1 (.slice av l.length cv) l.length (l.map fun x => Value.int .i64 x)) := Lib.hid (OwnZ.chg HO1.out hC2 HLOW.out)
        have hsz := HC2.out.size
        clear hT1 hT2 hC2 HO1 HC1
        have hlv : lenOf (.slice av l.length cv) = l.length := rfl
        go_wp2_with (at_builtin; go_must (refine wpList_append_own _ rfl _ _ 26 rfl w.heap.size 3 i0 (.int .i64 0) 1 8 Try.underlying26 hi0 hz0 hz1 hz2 rfl (by decide) (.slice av l.length cv) l.length _ rfl (HO2.out.alloc _) ⟨w2.heap.size, 0, none⟩ 1 1 [.int .i64 x.id] rfl rfl (cell_one_new _ _ _) (by simp [Value.oneCell']) (by unfold maxLen; omega) (by omega) (by simp; omega) ?_); go_must (intro v1 w3 hown1 hg1 _))
        have hc3 : Chg ([] : List Nat) (w2.alloc (.cells #[.int .i64 x.id] 3)) w3 ∨ True := .inr trivial
        have HC3 : Chg (tb :: F) w w3 := (HC2.out.alloc _).grown hg1 (fun k hk => by rcases owns_block HO2.out k hk with e | e; simp at e; exact .inr e)
        have HT3 : TimersAt w3 tb F (delL M x.id) p := by
          obtain ⟨mv, a, n, c, Q, ht⟩ := HT2.out
          have hg2 : Chg (match (Value.slice av l.length cv).ownBlock with | some k => [k] | none => []) w2 w3 := ((Chg.refl _ w2).alloc _).grown hg1 (fun k hk => by rw [hk]; simp)
          have hb : ∀ k, (Value.slice av l.length cv).ownBlock = some k → w.heap.size ≤ k := fun k hk => by rcases owns_block HO2.out k hk with e | e; simp at e; exact e
          refine ⟨mv, a, n, c, Q, ht.chg hg2 ?_ ?_⟩
          · intro hx
            split at hx
            · rename_i k hk
              simp at hx
              have := hb k hk
              omega
            · simp at hx
          · intro y hy hx
            split at hx
            · rename_i k hk
              simp at hx
              have := hb k hk
              have := HLOW.out y (List.mem_cons_of_mem _ hy)
              omega
            · simp at hx
        go_roundw
        case rel =>
          obtain ⟨hd, hr, hl⟩ := HD.out
          obtain ⟨s1, s2⟩ := HS.out
          refine ⟨l ++ [x.id], delL M x.id, OwnZ.snoc hown1, HT3, HC3, ?_, by rw [← hr, s2], ?_⟩
          · rw [← hd, s1, List.append_assoc]; rfl
          · have := HML.out
            rw [List.length_append, List.length_cons, List.length_nil]
            omega
        case measure =>
          obtain ⟨a1, c1, rfl⟩ := owns_len hown1
          obtain ⟨hd, hr, hl⟩ := HD.out
          simp [lenOf]; omega
      · have t1 : decide (now < x.due) = true := by simp; omega
        have HS : Hid (dueL M now = [] ∧ restL M now = M) := Lib.hid (due_none fun y hy => by
          have := hmin.2 y hy
          rw [leI_iff] at this
          omega)
        go_wp2_with fail
        refine hnext.mono ?_
        rintro e w1 ⟨rfl, n1, rfl⟩
        have HT := Lib.hid (hT.drewN n1)
        have HC := Lib.hid (hC.drewN n1)
        clear hT hC hnext
        go_wp2
        go_ret
        obtain ⟨hd, hr, hl⟩ := HD.out
        obtain ⟨s1, s2⟩ := HS.out
        refine ⟨_, rfl, ?_, ?_, HC.out⟩
        · rw [← hd, s1, List.append_nil]
          exact OwnZ.chg HOWN.out ((Chg.refl [] _).drewN n1) (by simp)
        · rw [← hr, s2]
          exact HT.out

end Go.Proofs.Ytlkhaookdmgbnaa
