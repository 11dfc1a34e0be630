/- Rows of integers held against each other: the document's Ints. Timers: the walk of Due. Timers that were made since: Put, Due, Next, At, Len, Drop, as one calls them; nobody's timers. Copies of timers: what is appended. Timers: the walk of Copy. -/
import Derived.Test.YtgdnfempcjlipaaChecked
import Derived.Test.YtgdnfempcjlipaaBaseZ
import Derived.WalkLawsBesides
import Derived.Outline
import Derived.Deep.QuietTactic
import Derived.BigQuiet
import Derived.Test.YtgdnfempcjlipaaTimY

namespace Go.Proofs.Ytgdnfempcjlipaa.Ti
open Go.RowKit

/-- The slice v reads as the numbers l: it is a row from a block's head on, or empty. -/
def RowZ (k : IntKind) (w : World) (v : Value) (l : List Int) : Prop :=
  (l = [] ∧ ∃ a c, v = .slice a 0 c) ∨ ∃ r c, v = .slice (some ⟨r, 0, none⟩) l.length c ∧ ∀ i (h : i < l.length), w.cell? ⟨r, i, none⟩ = some (.int k l[i])

theorem RowZ.slice {k : IntKind} {w : World} {v : Value} {l : List Int} (h : RowZ k w v l) : ∃ a c, v = .slice a l.length c := by
  rcases h with ⟨rfl, a, c, rfl⟩ | ⟨r, c, rfl, _⟩
  · exact ⟨a, c, rfl⟩
  · exact ⟨_, _, rfl⟩
theorem RowZ.of_heap {k : IntKind} {w : World} {r c : Nat} {l : List Int} {xs : List Value} {t : TypeId} {f : Nat × Nat} (h : w.heap[r]? = some (.cells (l.map (fun x => Value.int k x) ++ xs).toArray t f)) : RowZ k w (.slice (some ⟨r, 0, none⟩) l.length c) l :=
  .inr ⟨r, c, rfl, fun i hi => by rw [cell_of h, List.getElem?_toArray, List.getElem?_append_left (by simpa using hi)]; simp [hi]⟩
theorem RowZ.nil {k : IntKind} {w : World} {a : Option Addr} {c : Nat} : RowZ k w (.slice a 0 c) [] := .inl ⟨rfl, a, c, rfl⟩

end Go.Proofs.Ytgdnfempcjlipaa.Ti

namespace Go.Proofs.Ytgdnfempcjlipaa.Ti
open Go.RowKit

/-- The slice v is a row of the call's own that reads as the numbers l. -/
def OwnZ (base : Nat) (w : World) (v : Value) (l : List Int) : Prop := w.ownsRow base 3 1 v l.length (l.map fun x => Value.int .i64 x)
set_option maxRecDepth 100000 in
theorem OwnZ.nil (base : Nat) (w : World) : OwnZ base w (.slice none 0 0) [] := ⟨rfl, .inl ⟨rfl, rfl⟩⟩
set_option maxRecDepth 100000 in
theorem OwnZ.snoc {base : Nat} {w : World} {v : Value} {l : List Int} {y : Int} (h : w.ownsRow base 3 1 v (l.length + 1) (l.map (fun x => Value.int .i64 x) ++ [.int .i64 y])) : OwnZ base w v (l ++ [y]) := by
  have e : (l ++ [y]).map (fun x => Value.int .i64 x) = l.map (fun x => Value.int .i64 x) ++ [.int .i64 y] := by simp
  unfold OwnZ
  rw [e, List.length_append]
  exact h
set_option maxRecDepth 100000 in
theorem OwnZ.row {base : Nat} {w : World} {v : Value} {l : List Int} (h : OwnZ base w v l) : RowZ .i64 w v l := by
  obtain ⟨h0, h⟩ := h
  rcases h with ⟨rfl, e⟩ | ⟨g, cap, cur, rfl, _, hb, h1, h2, h3, h4⟩
  · exact .inl ⟨List.length_eq_zero_iff.1 e, none, 0, rfl⟩
  · have e : cur = (l.map (fun x => Value.int .i64 x) ++ cur.toList.drop (l.length * 1)).toArray := by
      rw [← h4, List.take_append_drop]
    rw [e] at hb
    exact RowZ.of_heap hb
set_option maxRecDepth 100000 in
theorem OwnZ.chg {S : List Nat} {w w' : World} {base : Nat} {v : Value} {l : List Int} (h : OwnZ base w v l) (hc : Chg S w w') (hS : ∀ x ∈ S, x < base) : OwnZ base w' v l := owns_chg h hc hS
set_option maxRecDepth 100000 in
theorem RowZ.chg {k : IntKind} {w w' : World} {v : Value} {l : List Int} (h : RowZ k w v l) (hc : Chg [] w w') : RowZ k w' v l := by
  rcases h with hh | ⟨r, c, hv, hx⟩
  · exact .inl hh
  · exact .inr ⟨r, c, hv, fun i hi => hc.cell (hx i hi) (by simp)⟩

def DueR (w : World) (tb p : Nat) (F : List Nat) (L : List It) (now : Int) (v : Value) (wr : World) : Prop :=
  ∃ l M, OwnZ w.heap.size wr v l ∧ TimersAt wr tb F M p ∧ Chg (tb :: F) w wr ∧ l ++ dueL M now = dueL L now ∧ restL M now = restL L now ∧ l.length + M.length = L.length
def DueAt (w : World) (tb p : Nat) (F : List Nat) (L : List It) (now : Int) (e : Ending) (w' : World) : Prop :=
  ∃ v, e = .returned v ∧ OwnZ w.heap.size w' v (dueL L now) ∧ TimersAt w' tb F (restL L now) p ∧ Chg (tb :: F) w w'

set_option maxRecDepth 100000 in
set_option maxHeartbeats 4000000 in
theorem due_any (tb : Nat) (F : List Nat) (L : List It) (p : Nat) (now : Int) (w : World) (h : TimersAt w tb F L p) (hp : p ≤ 1000000) :
    Calls Try.prog 47 #[.pointer (some ⟨tb, 0, none⟩), .int .i64 now] w (DueAt w tb p F L now) := by
  obtain ⟨i0, hi0, hz0, hz1, hz2⟩ := info_parts Try.elemInt
  have hlow := h.low
  have hlt := h.lt
  have hLp := h.ok.len
  have HLOW : Hid (∀ x ∈ tb :: F, x < w.heap.size) := Lib.hid (by intro x hx; rcases List.mem_cons.1 hx with e | e; omega; exact hlow x e)
  clear hlow
  go_enter Try.func47, Try.ntmps47
  go_wp2_with fail
  go_loopw [5] (DueR w tb p F L now) (fun v _ => L.length - lenOf v)
  case atStart => exact ⟨[], L, OwnZ.nil _ _, h, Chg.refl _ _, rfl, rfl, by simp⟩
  case round =>
    clear h
    obtain ⟨l, M, hown, hT, hC, hd, hr, hl⟩ := hrel
    have HD := Lib.hid (And.intro hd (And.intro hr hl))
    obtain ⟨av, cv, hv⟩ := owns_len hown
    have hll : l.length ≤ 1000000 := by omega
    have HOWN := Lib.hid hown
    rw [hv] at HOWN ⊢
    clear hd hr hl hown hv
    by_cases hM : M.length = 0
    · have hM' : M = [] := List.length_eq_zero_iff.1 hM
      subst hM'
      go_wp2_with fail
      refine (next_none tb F p _ hT).mono ?_
      rintro e w1 ⟨rfl, n1, rfl⟩
      have HT := Lib.hid (hT.drewN n1)
      have HC := Lib.hid (hC.drewN n1)
      clear hT hC
      go_wp2
      go_ret
      obtain ⟨hd, hr, hl⟩ := HD.out
      refine ⟨_, rfl, ?_, ?_, HC.out⟩
      · rw [← hd]
        have : dueL [] now = [] := rfl
        rw [this, List.append_nil]
        exact OwnZ.chg HOWN.out ((Chg.refl [] _).drewN n1) (by simp)
      · rw [← hr]
        exact HT.out
    · obtain ⟨x, hmin, hnext⟩ := next_some tb F M p _ hT (by omega)
      by_cases hdue : x.due ≤ now
      · have t1 : decide (now < x.due) = false := by simp; omega
        have HS := Lib.hid (due_step hT.ok.rise hmin hT.ok.ids hdue)
        have HML := Lib.hid (delL_len hmin.1 hT.ok.ids)
        go_wp2_with fail
        refine hnext.mono ?_
        rintro e w1 ⟨rfl, n1, rfl⟩
        have hT1 := hT.drewN n1
        have HC1 := Lib.hid (hC.drewN n1)
        have HO1 : Hid (OwnZ w.heap.size (wr.drewN n1) (.slice av l.length cv) l) := Lib.hid (OwnZ.chg HOWN.out ((Chg.refl [] _).drewN n1) (by simp))
        clear hnext hT hC HOWN
        go_wp2_with fail
        refine (drop_some tb F M p x _ hT1 hmin.1 hp).mono ?_
        rintro e w2 ⟨rfl, hT2, hC2⟩
        have HT2 := Lib.hid hT2
        have HC2 : Hid (Chg (tb :: F) w w2) := Lib.hid (HC1.out.trans hC2)
        have HO2 : Hid (w2.ownsRow w.heap.size 3 1 (.slice av l.length cv) l.length (l.map fun x => Value.int .i64 x)) := Lib.hid (OwnZ.chg HO1.out hC2 HLOW.out)
        have hsz := HC2.out.size
        clear hT1 hT2 hC2 HO1 HC1
        have hlv : lenOf (.slice av l.length cv) = l.length := rfl
        go_wp2_with (at_builtin; go_must (refine wpList_append_own _ rfl _ _ 75 rfl w.heap.size 3 i0 (.int .i64 0) 1 8 Try.underlying75 hi0 hz0 hz1 hz2 rfl (by decide) (.slice av l.length cv) l.length _ rfl (HO2.out.alloc _) ⟨w2.heap.size, 0, none⟩ 1 1 [.int .i64 x.id] rfl rfl (cell_one_new _ _ _) (by simp [Value.oneCell']) (by unfold maxLen; omega) (by omega) (by simp; omega) ?_); go_must (intro v1 w3 hown1 hg1 _))
        have hc3 : Chg ([] : List Nat) (w2.alloc (.cells #[.int .i64 x.id] 3)) w3 ∨ True := .inr trivial
        have HC3 : Chg (tb :: F) w w3 := (HC2.out.alloc _).grown hg1 (fun k hk => by rcases owns_block HO2.out k hk with e | e; simp at e; exact .inr e)
        have HT3 : TimersAt w3 tb F (delL M x.id) p := by
          obtain ⟨mv, a, n, c, Q, ht⟩ := HT2.out
          have hg2 : Chg (match (Value.slice av l.length cv).ownBlock with | some k => [k] | none => []) w2 w3 := ((Chg.refl _ w2).alloc _).grown hg1 (fun k hk => by rw [hk]; simp)
          have hb : ∀ k, (Value.slice av l.length cv).ownBlock = some k → w.heap.size ≤ k := fun k hk => by rcases owns_block HO2.out k hk with e | e; simp at e; exact e
          refine ⟨mv, a, n, c, Q, ht.chg hg2 ?_ ?_⟩
          · intro hx
            split at hx
            · rename_i k hk
              simp at hx
              have := hb k hk
              omega
            · simp at hx
          · intro y hy hx
            split at hx
            · rename_i k hk
              simp at hx
              have := hb k hk
              have := HLOW.out y (List.mem_cons_of_mem _ hy)
              omega
            · simp at hx
        go_roundw
        case rel =>
          obtain ⟨hd, hr, hl⟩ := HD.out
          obtain ⟨s1, s2⟩ := HS.out
          refine ⟨l ++ [x.id], delL M x.id, OwnZ.snoc hown1, HT3, HC3, ?_, by rw [← hr, s2], ?_⟩
          · rw [← hd, s1, List.append_assoc]; rfl
          · have := HML.out
            rw [List.length_append, List.length_cons, List.length_nil]
            omega
        case measure =>
          obtain ⟨a1, c1, rfl⟩ := owns_len hown1
          obtain ⟨hd, hr, hl⟩ := HD.out
          simp [lenOf]; omega
      · have t1 : decide (now < x.due) = true := by simp; omega
        have HS : Hid (dueL M now = [] ∧ restL M now = M) := Lib.hid (due_none fun y hy => by
          have := hmin.2 y hy
          rw [leI_iff] at this
          omega)
        go_wp2_with fail
        refine hnext.mono ?_
        rintro e w1 ⟨rfl, n1, rfl⟩
        have HT := Lib.hid (hT.drewN n1)
        have HC := Lib.hid (hC.drewN n1)
        clear hT hC hnext
        go_wp2
        go_ret
        obtain ⟨hd, hr, hl⟩ := HD.out
        obtain ⟨s1, s2⟩ := HS.out
        refine ⟨_, rfl, ?_, ?_, HC.out⟩
        · rw [← hd, s1, List.append_nil]
          exact OwnZ.chg HOWN.out ((Chg.refl [] _).drewN n1) (by simp)
        · rw [← hr, s2]
          exact HT.out

end Go.Proofs.Ytgdnfempcjlipaa.Ti

namespace Go.Proofs.Ytgdnfempcjlipaa.Ti
open Go.RowKit

/-- Timers that were made behind the world w0, of which nothing has changed. -/
def TB (w0 wr : World) (tb : Nat) (L : List It) (p : Nat) : Prop := ∃ F, TimersAt wr tb F L p ∧ (∀ y ∈ F, w0.heap.size ≤ y) ∧ w0.heap.size ≤ tb ∧ Chg [] w0 wr
set_option maxRecDepth 100000 in
theorem TB.chg {w0 w : World} {tb p : Nat} {L : List It} (h : TB w0 w tb L p) : Chg [] w0 w := by obtain ⟨F, _, _, _, h⟩ := h; exact h
set_option maxRecDepth 100000 in
theorem TB.same {w0 w w' : World} {tb p : Nat} {L : List It} (h : TB w0 w tb L p) (hc : Chg [] w w') : TB w0 w' tb L p := by
  obtain ⟨F, h1, h2, h3, h4⟩ := h
  exact ⟨F, h1.same hc, h2, h3, h4.trans hc⟩
set_option maxRecDepth 100000 in
theorem TB.new {w0 w : World} (hc : Chg [] w0 w) : TB w0 (w.alloc (.cells #[.map none, .slice none 0 0, .int .u64 0] 113)) w.heap.size [] 0 :=
  ⟨[], new_at w, by simp, hc.size, hc.alloc _⟩
set_option maxRecDepth 100000 in
theorem new_t (w0 w : World) (hc : Chg [] w0 w) :
    Calls Try.prog 46 #[] w fun e w' => ∃ tb, e = .returned (.pointer (some ⟨tb, 0, none⟩)) ∧ TB w0 w' tb [] 0 := by
  refine (new_any w).mono ?_
  rintro e w' ⟨rfl, rfl⟩
  exact ⟨w.heap.size, rfl, TB.new hc⟩
set_option maxRecDepth 100000 in
theorem put_t (w0 : World) (tb : Nat) (L : List It) (p : Nat) (id due : Int) (w : World) (h : TB w0 w tb L p) (hid : InI id) (hdue : InI due) (hp : p ≤ 1000000) :
    Calls Try.prog 34 #[.pointer (some ⟨tb, 0, none⟩), .int .i64 id, .int .i64 due] w fun e w' => e = .returned (.int .i64 0) ∧ TB w0 w' tb (putL L id due (p + 1)) (p + 1) := by
  obtain ⟨F, h1, h2, h3, h4⟩ := h
  refine (put_any tb F L p id due w h1 hid hdue hp).mono ?_
  rintro e w' ⟨rfl, F', k1, k2, k3⟩
  refine ⟨rfl, F', k1, ?_, h3, ?_⟩
  · intro y hy
    rcases k2 y hy with e | e
    · exact h2 y e
    · have := h4.size; omega
  · refine h4.trans_new k3 ?_
    intro y hy
    rcases List.mem_cons.1 hy with e | e
    · right; omega
    · exact .inr (h2 y e)
set_option maxRecDepth 100000 in
theorem due_t (w0 : World) (tb : Nat) (L : List It) (p : Nat) (now : Int) (w : World) (h : TB w0 w tb L p) (hp : p ≤ 1000000) :
    Calls Try.prog 47 #[.pointer (some ⟨tb, 0, none⟩), .int .i64 now] w fun e w' => ∃ a c, e = .returned (.slice a (dueL L now).length c) ∧ RowZ .i64 w' (.slice a (dueL L now).length c) (dueL L now) ∧ TB w0 w' tb (restL L now) p := by
  obtain ⟨F, h1, h2, h3, h4⟩ := h
  refine (due_any tb F L p now w h1 hp).mono ?_
  rintro e w' ⟨v, rfl, k1, k2, k3⟩
  obtain ⟨a, c, rfl⟩ := owns_len k1
  refine ⟨a, c, rfl, k1.row, F, k2, h2, h3, ?_⟩
  refine h4.trans_new k3 ?_
  intro y hy
  rcases List.mem_cons.1 hy with e | e
  · right; omega
  · exact .inr (h2 y e)
set_option maxRecDepth 100000 in
theorem len_t (w0 : World) (tb : Nat) (L : List It) (p : Nat) (w : World) (h : TB w0 w tb L p) :
    Calls Try.prog 99 #[.pointer (some ⟨tb, 0, none⟩)] w fun e w' => e = .returned (.int .i64 L.length) ∧ w = w' := by
  obtain ⟨F, h1, _⟩ := h
  exact len_any tb F L p w h1
set_option maxRecDepth 100000 in
theorem next_t (w0 : World) (tb : Nat) (L : List It) (p : Nat) (x : It) (w : World) (h : TB w0 w tb L p) (hx : (sortL L).head? = some x) :
    Calls Try.prog 63 #[.pointer (some ⟨tb, 0, none⟩)] w fun e w' => e = .returned (.tuple #[.int .i64 x.id, .int .i64 x.due, .bool true]) ∧ Chg [] w w' := by
  obtain ⟨F, h1, _⟩ := h
  have hL : 0 < L.length := by
    cases L with
    | nil => simp [sortL] at hx
    | cons y l => simp
  obtain ⟨y, hy, hc⟩ := next_some tb F L p w h1 hL
  have e := min_head h1.ok.rise hy h1.ok.ids
  rw [e] at hx
  injection hx with hx
  subst hx
  refine hc.mono ?_
  rintro e w' ⟨rfl, n, rfl⟩
  exact ⟨rfl, (Chg.refl _ _).drewN n⟩
set_option maxRecDepth 100000 in
theorem next0_t (w0 : World) (tb p : Nat) (w : World) (h : TB w0 w tb [] p) :
    Calls Try.prog 63 #[.pointer (some ⟨tb, 0, none⟩)] w fun e w' => e = .returned (.tuple #[.int .i64 0, .int .i64 0, .bool false]) ∧ Chg [] w w' := by
  obtain ⟨F, h1, _⟩ := h
  refine (next_none tb F p w h1).mono ?_
  rintro e w' ⟨rfl, n, rfl⟩
  exact ⟨rfl, (Chg.refl _ _).drewN n⟩
set_option maxRecDepth 100000 in
theorem drop0_t (w0 : World) (tb p : Nat) (L : List It) (id : Int) (w : World) (h : TB w0 w tb L p) (hi : InI id) (hx : ∀ x ∈ L, x.id ≠ id) :
    Calls Try.prog 64 #[.pointer (some ⟨tb, 0, none⟩), .int .i64 id] w fun e w' => e = .returned (.bool false) ∧ w = w' := by
  obtain ⟨F, h1, _⟩ := h
  exact drop_none tb F L p id w h1 hi hx
set_option maxRecDepth 100000 in
theorem inI_of {k : Int} (h1 : -9223372036854775808 ≤ k) (h2 : k ≤ 9223372036854775807) : InI k := ⟨h1, h2⟩

set_option maxRecDepth 100000 in
theorem len_nil (w : World) : Calls Try.prog 99 #[.pointer none] w fun e w' => e = .returned (.int .i64 0) ∧ w = w' := by
  go_enter Try.func99, Try.ntmps99
  go_wp2
  go_ret
  exact ⟨rfl, rfl⟩
set_option maxRecDepth 100000 in
theorem next_nil (w : World) : Calls Try.prog 63 #[.pointer none] w fun e w' => e = .returned (.tuple #[.int .i64 0, .int .i64 0, .bool false]) ∧ w = w' := by
  go_enter Try.func63, Try.ntmps63
  go_wp2
  go_ret3
  exact ⟨rfl, rfl⟩
set_option maxRecDepth 100000 in
theorem drop_nil (id : Int) (w : World) : Calls Try.prog 64 #[.pointer none, .int .i64 id] w fun e w' => e = .returned (.bool false) ∧ w = w' := by
  go_enter Try.func64, Try.ntmps64
  go_wp2
  go_ret
  exact ⟨rfl, rfl⟩
set_option maxRecDepth 100000 in
theorem due_nil (now : Int) (w : World) : Calls Try.prog 47 #[.pointer none, .int .i64 now] w fun e w' => e = .returned (.slice none 0 0) ∧ w = w' := by
  go_enter Try.func47, Try.ntmps47
  go_wp2_with fail
  go_loopw [5] (fun v wr => v = .slice none 0 0 ∧ wr = w) (fun _ _ => 0)
  case atStart => exact ⟨rfl, rfl⟩
  case round =>
    obtain ⟨rfl, rfl⟩ := hrel
    go_wp2_with fail
    refine (next_nil _).mono ?_
    rintro e w1 ⟨rfl, rfl⟩
    go_wp2
    go_ret
    exact ⟨rfl, rfl⟩
set_option maxRecDepth 100000 in
theorem copy_nil (w : World) : Calls Try.prog 44 #[.pointer none] w fun e w' => e = .returned (.pointer none) ∧ w = w' := by
  go_enter Try.func44, Try.ntmps44
  go_wp2
  go_ret
  exact ⟨rfl, rfl⟩

end Go.Proofs.Ytgdnfempcjlipaa.Ti

namespace Go.Proofs.Ytgdnfempcjlipaa.Ti
open Go.RowKit

set_option maxRecDepth 100000 in
theorem push_post2 {w w2 : World} {tb g n c p qb cap : Nat} {mv v' : Value} {a : Option Addr} {x : It} {Q : List (It × Nat)} {F : List Nat} (h : QS w a n c Q F) (hh : HeadAt w tb mv (.slice a n c) p) (hi : ItemAt w g x n) (htF : tb ∉ F) (hgF : g ∉ F) (htg : tb ≠ g)
    (hown : w2.ownsRow 0 114 1 v' (n + 1) (ptrsQ Q ++ [.pointer (some ⟨g, 0, none⟩)]))
    (hg : (w.alloc (.cells #[.pointer (some ⟨g, 0, none⟩)] 114)).grownBy w2 (Value.slice a n c).ownBlock)
    (hv : v' = .slice (some ⟨qb, 0, none⟩) (n + 1) cap) (hw : (Value.slice a n c).ownBlock = some qb ∨ (w.heap.size + 1) ≤ qb) : PushPost w tb g n p mv x Q F (w2.setCell ⟨tb, 1, none⟩ v') := by
  have hlt := hh.lt
  have hglt := hi.lt
  have hsz : (w.alloc (.cells #[.pointer (some ⟨g, 0, none⟩)] 114)).heap.size = w.heap.size + 1 := by simp
  have hC0 : Chg (g :: F) w (w.alloc (.cells #[.pointer (some ⟨g, 0, none⟩)] 114)) := (Chg.refl _ w).alloc _
  have hC1 : Chg (g :: F) w w2 := hC0.grown hg fun y hy => .inl (List.mem_cons_of_mem _ (h.own_in hy).1)
  have hh2 : HeadAt w2 tb mv (.slice a n c) p := hh.chg hC1 (by simp [htg, htF])
  have htq : qb ≠ tb := by
    rcases hw with e | e
    · intro e2; subst e2; exact htF (h.own_in e).1
    · omega
  have hn := h.1
  rcases hown.2 with ⟨e, _⟩ | ⟨g2, cap2, cur, e, _, hblk, hnc, hcm, hcs, htake⟩
  · rw [hv] at e; cases e
  · rw [hv] at e
    injection e with e1 e2 e3
    injection e1 with e1
    injection e1 with e1
    subst e1; subst e3
    have hit : ItemAt w2 g x n := by
      have h1 : ItemAt (w.alloc (.cells #[.pointer (some ⟨g, 0, none⟩)] 114)) g x n := by
        unfold ItemAt
        exact heap_old hi
      unfold ItemAt at h1 ⊢
      rw [hg.block g (by rw [hsz]; omega) (fun e => hgF (h.own_in e.symm).1)]
      exact h1
    refine ⟨qb, cap, ?_, hnc, hcm, ⟨⟨cur.toList.drop (n + 1), ?_, ?_⟩, ?_, ?_⟩, ?_, ?_⟩
    · rw [hv]; exact hh2.set1 _
    · simp; omega
    · rw [heap_set_other _ htq, hblk]
      have e4 : (Q ++ [(x, g)]).map (fun x => Value.pointer (some ⟨x.2, 0, none⟩)) = cur.toList.take (n + 1) := by
        rw [show cur.toList.take (n + 1) = cur.toList.take ((n + 1) * 1) by simp, htake]
        simp [ptrsQ]
      rw [e4, List.take_append_drop]
    · intro i hil
      rw [List.length_append] at hil
      by_cases e : i < Q.length
      · rw [List.getElem_append_left e]
        have h0 := h.item e
        have hm : Q[i].2 ∈ F := h.inF (List.getElem_mem e)
        have n1 : Q[i].2 ≠ tb := fun e => htF (e ▸ hm)
        have n2 : Q[i].2 ≠ g := fun e => hgF (e ▸ hm)
        have h1 : ItemAt (w.alloc (.cells #[.pointer (some ⟨g, 0, none⟩)] 114)) Q[i].2 Q[i].1 i := by
          unfold ItemAt at h0 ⊢
          exact heap_old h0
        have h2 := h1.lt
        unfold ItemAt at h1 ⊢
        rw [heap_set_other _ n1, hg.block _ h2 (fun e => (h.own_in e.symm).2.2 _ (List.getElem_mem _) rfl)]
        exact h1
      · have e5 : i = Q.length := by simp at hil; omega
        subst e5
        rw [List.getElem_append_right (Nat.le_refl _)]
        simp only [Nat.sub_self, List.getElem_cons_zero]
        rw [← hn]
        unfold ItemAt at hit ⊢
        rw [heap_set_other _ (Ne.symm htg)]
        exact hit
    · rw [List.map_append, List.nodup_append]
      refine ⟨h.nodup, by simp, ?_⟩
      intro y hy z hz
      simp at hz
      rw [hz]
      intro e
      rw [e] at hy
      obtain ⟨q, hq, hq2⟩ := List.mem_map.1 hy
      exact hgF (hq2 ▸ h.inF hq)
    · intro y hy
      simp only [blksQ, List.map_append, List.mem_cons, List.mem_append, List.map_cons, List.map_nil, List.mem_nil_iff, or_false] at hy
      rcases hy with e | e | e
      · rw [e]
        rcases hw with e | e
        · exact .inl (List.mem_cons_of_mem _ (h.own_in e).1)
        · right; omega
      · obtain ⟨q, hq, hq2⟩ := List.mem_map.1 e
        exact .inl (List.mem_cons_of_mem _ (hq2 ▸ h.inF hq))
      · left; rw [e]; simp
    · exact (hC1.mono fun y hy => List.mem_cons_of_mem _ hy).setCell (.inl (by simp)) _

set_option maxRecDepth 100000 in
theorem mk_map_hint (k : IntKind) (n : Int) (w : World) : (Instr.makeMap 109 (some (.int k n))).run Try.prog w = .ok (.map (some w.heap.size)) (w.alloc (.map #[] 0)) := by
  simp [Instr.makeMap, run_underlying Try.underlying109, asInt]
  rfl

end Go.Proofs.Ytgdnfempcjlipaa.Ti

namespace Go.Proofs.Ytgdnfempcjlipaa.Ti
open Go.RowKit Go.Maps

set_option maxRecDepth 100000 in
theorem MapAt.len {w : World} {mb n : Nat} {f : Int → Option Nat} (h : MapAt w mb n f) (ty : TypeId) : ∃ m : Nat, ∀ k, (Builtin.len_ #[109] ty #[.map (some mb)]).run Try.prog (w.drewN k) = .ok (.int .i64 m) (w.drewN k) := by
  obtain ⟨D, h0, h1, h2⟩ := h
  refine ⟨Maps.size D, fun k => ?_⟩
  have h3 : (w.drewN k).ownsMap Try.prog 3 ptrE mb n D := h0
  exact h3.len Try.underlying109 ty

/-- A copy under way: its first k things. -/
def CP (w wr : World) (cb p : Nat) (Q : List (It × Nat)) (k : Nat) : Prop :=
  ∃ mb a c Q' f Fc, HeadAt wr cb (.map (some mb)) (.slice a k c) p ∧ QS wr a k c Q' Fc ∧ itsQ Q' = (itsQ Q).take k ∧ MapAt wr mb k f ∧ FQ f Q' ∧ mb ∉ Fc ∧ cb ∉ Fc ∧ (∀ y ∈ cb :: mb :: Fc, w.heap.size ≤ y) ∧ (∀ y ∈ Fc, y < wr.heap.size) ∧ Chg [] w wr

set_option maxRecDepth 100000 in
theorem copy_step {w wr W1 W3 W4 : World} {cb mb g k p : Nat} {Q Q2 : List (It × Nat)} {f2 : Int → Option Nat} {Fc : List Nat} (hkQ : k < Q.length) (hk2 : k = Q2.length) (e3 : itsQ Q2 = (itsQ Q).take k) (e5 : FQ f2 Q2) (e7 : cb ∉ Fc) (e8 : ∀ y ∈ cb :: mb :: Fc, w.heap.size ≤ y)
    (hchg : Chg [] w wr) (hW1 : Chg [] wr W1) (hg : g = wr.heap.size) (hcb : cb < wr.heap.size) (hcm : mb ≠ cb) (hids : ((itsQ Q).map It.id).Nodup)
    (HP : PushPost W1 cb g k p (.map (some mb)) Q[k].1 Q2 Fc W3) (hm3 : MapAt W3 mb k f2) (m4 : MapAt W4 mb (k + 1) (fun x => if x = Q[k].1.id then some g else f2 x)) (c4 : Chg [mb] W3 W4) : CP w W4 cb p Q (k + 1) := by
  obtain ⟨qb3, cap3, p1, p2, p3, p4, p5, p6⟩ := HP
  have hmQ := hm3.notQ p4
  have s1 := hchg.size
  have s2 := hW1.size
  have s3 := p6.size
  have s4 := c4.size
  have hnew : ∀ y ∈ blksQ qb3 (Q2 ++ [(Q[k].1, g)]), w.heap.size ≤ y ∧ y ≠ cb := by
    intro y hy
    rcases p5 y hy with e | e
    · rcases List.mem_cons.1 e with e | e
      · exact ⟨by omega, by omega⟩
      · exact ⟨e8 y (by simp [e]), fun e2 => e7 (e2 ▸ e)⟩
    · exact ⟨by omega, by omega⟩
  have q4 : QAt W4 qb3 cap3 (Q2 ++ [(Q[k].1, g)]) := p4.chg c4 fun y hy => by simp; intro e; exact hmQ (e ▸ hy)
  have hit : itsQ (Q2 ++ [(Q[k].1, g)]) = (itsQ Q).take (k + 1) := by
    have hk' : k < (itsQ Q).length := by simpa [itsQ] using hkQ
    rw [List.take_succ_eq_append_getElem hk', ← e3]
    simp [itsQ]
  have hne : ∀ x ∈ Q2, x.1.id ≠ Q[k].1.id := by
    intro x hx e
    have hk' : k < (itsQ Q).length := by simpa [itsQ] using hkQ
    have h1 : ((itsQ (Q2 ++ [(Q[k].1, g)])).map It.id).Nodup := by
      rw [hit]
      exact hids.sublist ((List.take_sublist _ _).map _)
    unfold itsQ at h1
    rw [List.map_append, List.map_append, List.nodup_append] at h1
    exact h1.2.2 x.1.id (List.mem_map.2 ⟨x.1, List.mem_map.2 ⟨x, hx, rfl⟩, rfl⟩) Q[k].1.id (by simp) e
  refine ⟨mb, some ⟨qb3, 0, none⟩, cap3, Q2 ++ [(Q[k].1, g)], _, blksQ qb3 (Q2 ++ [(Q[k].1, g)]), p1.chg c4 (by simp; exact Ne.symm hcm), ⟨by simp; exact hk2, p2, .inr ⟨qb3, rfl, p3, q4, fun y hy => hy⟩⟩, hit, m4, ?_, hmQ, fun hx => (hnew cb hx).2 rfl, ?_, ?_, ?_⟩
  · intro y b
    dsimp only
    by_cases e : y = Q[k].1.id
    · rw [if_pos e]
      constructor
      · intro h
        injection h with h
        exact ⟨(Q[k].1, g), by simp, e.symm, h⟩
      · rintro ⟨x, hx, h1, h2⟩
        rcases List.mem_append.1 hx with hh | hh
        · exact absurd (h1.trans e) (hne x hh)
        · simp at hh
          rw [← h2, hh]
    · rw [if_neg e, e5 y b]
      constructor
      · rintro ⟨x, hx, h1, h2⟩
        exact ⟨x, by simp [hx], h1, h2⟩
      · rintro ⟨x, hx, h1, h2⟩
        rcases List.mem_append.1 hx with hh | hh
        · exact ⟨x, hh, h1, h2⟩
        · simp at hh
          rw [hh] at h1
          exact absurd h1.symm e
  · intro y hy
    rcases List.mem_cons.1 hy with e | e
    · exact e8 y (by simp [e])
    · rcases List.mem_cons.1 e with e | e
      · exact e8 y (by simp [e])
      · exact (hnew y e).1
  · intro y hy
    rcases List.mem_cons.1 hy with e | e
    · rw [e]; exact q4.lt
    · obtain ⟨x, hx, rfl⟩ := List.mem_map.1 e
      obtain ⟨i, hi, rfl⟩ := List.getElem_of_mem hx
      exact (q4.items i hi).lt
  · refine ((hchg.trans hW1).trans_new p6 ?_).trans_new c4 ?_
    · intro y hy
      rcases List.mem_cons.1 hy with e | e
      · right; exact e8 y (by simp [e])
      · rcases List.mem_cons.1 e with e | e
        · right; omega
        · right; exact e8 y (by simp [e])
    · intro y hy
      simp at hy
      right
      exact e8 y (by simp [hy])

set_option maxRecDepth 100000 in
theorem copy_end {w wr : World} {tb : Nat} {F : List Nat} {L : List It} {p : Nat} {mv : Value} {a : Option Addr} {n c cb : Nat} {Q : List (It × Nat)} (h : TI w tb F L p mv a n c Q) (hc : CP w wr cb p Q n) : TB w wr cb L p := by
  obtain ⟨mb, a2, c2, Q2, f2, Fc, e1, e2, e3, e4, e5, e6, e7, e8, e9, e10⟩ := hc
  have hQ : itsQ Q2 = itsQ Q := by
    rw [e3, List.take_of_length_le (by simp [itsQ]; have := h.qs.1; omega)]
  have hcm := e4.notT e1
  have hnp : n ≤ p := by rw [h.len]; exact h.ok.len
  obtain ⟨q1, q2, q3⟩ := e2
  refine ⟨mb :: Fc, ⟨.map (some mb), a2, n, c2, Q2, ⟨e1, ⟨q1, q2, ?_⟩, by rw [hQ]; exact h.heap, by rw [hQ]; exact h.perm, .inr ⟨mb, n, f2, rfl, e4, hnp, by simp, e5⟩, by simp only [List.mem_cons, not_or]; exact ⟨Ne.symm hcm, e7⟩, ?_, h.ok⟩⟩, fun y hy => e8 y (List.mem_cons_of_mem _ hy), e8 cb (by simp), e10⟩
  · rcases q3 with q3 | ⟨qb, r1, r2, r3, r4⟩
    · exact .inl q3
    · exact .inr ⟨qb, r1, r2, r3, fun y hy => List.mem_cons_of_mem _ (r4 y hy)⟩
  · intro y hy
    rcases List.mem_cons.1 hy with e | e
    · rw [e]; exact e4.lt
    · exact e9 y e

set_option maxRecDepth 100000 in
set_option maxHeartbeats 4000000 in
theorem copy_any (tb : Nat) (F : List Nat) (L : List It) (p : Nat) (w : World) (h : TimersAt w tb F L p) (hp : p ≤ 1000000) :
    Calls Try.prog 44 #[.pointer (some ⟨tb, 0, none⟩)] w fun e w' => ∃ cb, e = .returned (.pointer (some ⟨cb, 0, none⟩)) ∧ TB w w' cb L p := by
  obtain ⟨mv, a, n, c, Q, h⟩ := h
  have c0 := h.head.c0
  have c1 := h.head.c1
  have c2 := h.head.c2
  have hlt := h.head.lt
  have hl : ∃ m : Nat, ∀ k, (Builtin.len_ #[109] 3 #[mv]).run Try.prog (w.drewN k) = .ok (.int .i64 m) (w.drewN k) := by
    rcases h.map with ⟨rfl, _⟩ | ⟨mb, k, f, rfl, hm, _⟩
    · exact ⟨0, fun k => by kernel_rfl⟩
    · exact hm.len _
  obtain ⟨m, hl⟩ := hl
  have hl1 : (Builtin.len_ #[109] 3 #[mv]).run Try.prog w.drew = .ok (.int .i64 m) w.drew := hl 1
  have HT := Lib.hid h
  have hmk := fun w => mk_map_hint .i64 m w
  obtain ⟨i0, hi0, hz0, hz1, hz2⟩ := info_parts (P := Try.prog) (e := 114) (z := .pointer none) (size := 1) (bytes := 8) (by kernel_rfl)
  clear h hl
  go_enter Try.func44, Try.ntmps44
  go_wp2_with fail
  go_region
  have HCP : Hid (CP w ((w.alloc (.map #[] 0)).alloc (.cells #[.map (some w.heap.size), .slice none 0 0, .int .u64 p] 113)).drew (w.heap.size + 1) p Q 0) := Lib.hid (by
    have hs : (w.alloc (.map #[] 0)).heap.size = w.heap.size + 1 := by simp
    refine ⟨w.heap.size, none, 0, [], fun _ => none, [], heap_new' _ _ _ hs.symm, ⟨rfl, by omega, .inl ⟨rfl, rfl, rfl⟩⟩, by simp [itsQ], (map_new w).chg ((Chg.refl [] _).alloc _).drew (by simp), ?_, by simp, by simp, ?_, by simp, (((Chg.refl [] w).alloc _).alloc _).drew⟩
    · intro k b
      constructor
      · intro h; cases h
      · rintro ⟨x, hx, _⟩; simp at hx
    · intro y hy
      simp at hy
      omega)
  obtain ⟨cb, hcb⟩ : ∃ cb, cb = w.heap.size + 1 := ⟨_, rfl⟩
  have hnp : n ≤ p := by rw [HT.out.len]; exact HT.out.ok.len
  have HNQ := Lib.hid HT.out.qs.1
  rw [← hcb] at HCP ⊢
  clear hl1 hmk c0 c2 hcb
  go_wp2_with fail
  go_loopw [26] (fun v wr => ∃ k, k ≤ n ∧ v = .int .i64 (k : Nat) ∧ CP w wr cb p Q k) (fun v _ => n - (intOf v).toNat)
  case atStart => exact ⟨0, by omega, rfl, HCP.out⟩
  case round =>
    clear HCP
    obtain ⟨k, hk, rfl, hC⟩ := hrel
    have HC := Lib.hid hC
    clear hC
    by_cases hkn : k < n
    · have hkQ : k < Q.length := by have := HNQ.out; omega
      have hch : Chg [] w wr := by obtain ⟨_, _, _, _, _, _, _, _, _, _, _, _, _, _, _, h⟩ := HC.out; exact h
      obtain ⟨mb, a2, c2, Q2, f2, Fc, e1, e2, e3, e4, e5, e6, e7, e8, e9, e10⟩ := HC.out
      have HE := Lib.hid (And.intro e1 (And.intro e2 (And.intro e3 (And.intro e4 (And.intro e5 (And.intro e6 (And.intro e7 (And.intro e8 e9))))))))
      have hit := (HT.out.qs.item hkQ).chg hch (by simp)
      have q0 := hit.c0
      have i1 := hit.c1
      have i2 := hit.c2
      have i3 := hit.c3
      have b1 : (k : Int) < (n : Int) := by omega
      have h1 := e1.c1
      have h0 := e1.c0
      have f1 := e1.fr 1
      have hq : ∃ qb, a = some ⟨qb, 0, none⟩ ∧ w.cell? ⟨qb, k, none⟩ = some (.pointer (some ⟨Q[k].2, 0, none⟩)) := by
        obtain ⟨_, _, hqq⟩ := HT.out.qs
        rcases hqq with ⟨_, e, _⟩ | ⟨qb, ha, _, hq, _⟩
        · omega
        · exact ⟨qb, ha, hq.get k hkQ⟩
      obtain ⟨qb, rfl, hq⟩ := hq
      have hq' := hch.cell hq (by simp)
      have HCH := Lib.hid hch
      have hcblt := e1.lt
      have hcbne : cb ≠ wr.heap.size := by omega
      have hgF : wr.heap.size ∉ Fc := fun hx => by have := e9 _ hx; omega
      obtain ⟨W1, hW1⟩ : ∃ W1, W1 = wr.alloc (.cells #[.int .i64 Q[k].1.id, .int .i64 Q[k].1.due, .int .u64 Q[k].1.put, .int .i64 k] 117) := ⟨_, rfl⟩
      have hcW : Chg [] wr W1 := by rw [hW1]; exact (Chg.refl [] wr).alloc _
      have hsW : W1.heap.size = wr.heap.size + 1 := by rw [hW1]; simp
      have hqW : QS W1 a2 k c2 Q2 Fc := e2.chg hcW (by simp)
      have hhW : HeadAt W1 cb (.map (some mb)) (.slice a2 k c2) p := e1.chg hcW (by simp)
      have hiW : ItemAt W1 wr.heap.size Q[k].1 k := by rw [hW1]; exact heap_new wr _
      have HPUSH : Hid (∀ (w2 : World) (qb cap : Nat) (v' : Value), w2.ownsRow 0 114 1 v' (k + 1) (ptrsQ Q2 ++ [.pointer (some ⟨wr.heap.size, 0, none⟩)]) → (W1.alloc (.cells #[.pointer (some ⟨wr.heap.size, 0, none⟩)] 114)).grownBy w2 (Value.slice a2 k c2).ownBlock →
          v' = .slice (some ⟨qb, 0, none⟩) (k + 1) cap → ((Value.slice a2 k c2).ownBlock = some qb ∨ W1.heap.size + 1 ≤ qb) → PushPost W1 cb wr.heap.size k p (.map (some mb)) Q[k].1 Q2 Fc (w2.setCell ⟨cb, 1, none⟩ v') ∧ w2.cell? ⟨cb, 0, none⟩ = some (.map (some mb)) ∧ w2.cell? ⟨cb, 1, none⟩ = some (.slice a2 k c2) ∧ w2.frozen? ⟨cb, 1, none⟩ = false ∧ w2.cell? ⟨wr.heap.size, 0, none⟩ = some (.int .i64 Q[k].1.id)) := Lib.hid (fun w2 qb cap v' r1 r2 r3 r4 => by
        refine ⟨push_post2 hqW hhW hiW e7 hgF hcbne r1 r2 r3 r4, ?_⟩
        have hC0 : Chg Fc W1 (W1.alloc (.cells #[.pointer (some ⟨wr.heap.size, 0, none⟩)] 114)) := (Chg.refl _ _).alloc _
        have hC1 : Chg Fc W1 w2 := hC0.grown r2 fun y hy => .inl (hqW.own_in hy).1
        have hh2 := hhW.chg hC1 e7
        exact ⟨hh2.c0, hh2.c1, hh2.fr 1, (hiW.chg hC1 hgF).c0⟩)
      have HOW := Lib.hid hqW.owns
      rw [hW1] at HOW
      have HW1 := Lib.hid hW1
      clear hit hq e1 e2 e3 e4 e5 e6 e7 e8 e9 e10 hch c1 hcW hqW hhW hiW hgF hW1 hsW
      go_wp2_with (at_builtin; go_must (refine wpList_push_own rfl _ _ 111 rfl 114 i0 (.pointer none) 8 Try.underlying111 hi0 hz0 hz1 hz2 rfl (.slice a2 k c2) k _ rfl (HOW.out.alloc _) ⟨wr.heap.size + 1, 0, none⟩ 1 (.pointer (some ⟨wr.heap.size, 0, none⟩)) rfl (cell_new1 _ _ _ _ (by simp)) rfl (by unfold maxLen; omega) (by omega) ?_); go_must (intro v1 w2 qb2 cap2 own2 hg2 hv2 hw2; rw [← HW1.out] at hg2 hw2; obtain ⟨P1, k0, k1, kf, ki⟩ := HPUSH.out w2 qb2 cap2 v1 own2 hg2 hv2 (by simpa using hw2); have HP1 := Lib.hid P1; clear P1 own2 hg2 hw2; subst hv2))
      obtain ⟨e1, e2, e3, e4, e5, e6, e7, e8, e9⟩ := HE.out
      have hcm := e4.notT e1
      have hmlt := e4.lt
      have hcW : Chg [] wr W1 := by rw [HW1.out]; exact (Chg.refl [] wr).alloc _
      have hm3 : MapAt (w2.setCell ⟨cb, 1, none⟩ (.slice (some ⟨qb2, 0, none⟩) (k + 1) cap2)) mb k f2 := by
        obtain ⟨_, _, _, _, _, _, _, p6⟩ := HP1.out
        refine (e4.chg hcW (by simp)).chg p6 ?_
        simp only [List.mem_cons, not_or]
        exact ⟨hcm, by omega, e6⟩
      have hidI := HT.out.ok.idI _ (HT.out.mem (List.getElem_mem hkQ))
      obtain ⟨W4, hrun, m4, c4⟩ := MapAt.put (w := (w2.setCell ⟨cb, 1, none⟩ (.slice (some ⟨qb2, 0, none⟩) (k + 1) cap2)).drew) (hm3.chg ((Chg.refl [] _).drew) (by simp)) hidI wr.heap.size (by omega)
      have HST : Hid (CP w W4 cb p Q (k + 1)) := Lib.hid (copy_step hkQ e2.1 e3 e5 e7 e8 HCH.out hcW rfl hcblt hcm (((HT.out.perm.map It.id).nodup_iff).2 HT.out.ok.ids) HP1.out hm3 m4 c4.undrew)
      clear e1 e2 e3 e4 e5 e6 e7 e8 e9 m4 c4 hm3 hcW
      go_region
      go_wp2
      go_roundw
      case rel => exact ⟨k + 1, by omega, by go_num, HST.out⟩
      case measure => simp [intOf]; omega
    · obtain rfl : k = n := by omega
      go_wp2
      go_ret
      exact ⟨cb, rfl, copy_end HT.out HC.out⟩

end Go.Proofs.Ytgdnfempcjlipaa.Ti
