/- The walks of package lru: hang, slot, Use. -/
import Derived.Test.YtjnipcalncpimaaLruB
namespace Go.Proofs.Ytjnipcalncpimaa
open Go.RowKit

theorem seg_next_mem {f g : Nat → Nat} {a : Nat} {l : List Nat} {b : Nat} (h : Seg f g a l b) : ∀ z ∈ a :: l, f z ∈ l ++ [b] := by
  induction l generalizing a with
  | nil => intro z hz; simp at hz; subst hz; simp [h.1]
  | cons p l ih =>
    intro z hz
    rcases List.mem_cons.1 hz with hh | hh
    · subst hh; rw [h.1]; simp
    · exact List.mem_cons_of_mem _ (ih h.2.2 z hh)
theorem seg_last_mem {f g : Nat → Nat} {a : Nat} {l : List Nat} {b : Nat} (h : Seg f g a l b) : ∀ z ∈ l ++ [b], g z ∈ a :: l := by
  induction l generalizing a with
  | nil => intro z hz; simp at hz; subst hz; simp [h.2]
  | cons p l ih =>
    intro z hz
    rw [List.cons_append] at hz
    rcases List.mem_cons.1 hz with hh | hh
    · subst hh; rw [h.2.1]; simp
    · exact List.mem_cons_of_mem _ (ih h.2.2 z hh)
theorem ring_bound {f g : Nat → Nat} {ps : List Nat} (h : Ring f g ps) (hb : ∀ x ∈ ps, x < 257) (p : Nat) : f p < 257 ∧ g p < 257 := by
  obtain ⟨_, hs, ho⟩ := h
  by_cases hp : p ∈ 0 :: ps
  · have h1 := seg_next_mem hs p hp
    have h2 := seg_last_mem hs p (by rcases List.mem_cons.1 hp with hh | hh; simp [hh]; simp [hh])
    constructor
    · rcases List.mem_append.1 h1 with hh | hh
      · exact hb _ hh
      · simp at hh; omega
    · rcases List.mem_cons.1 h2 with hh | hh
      · omega
      · exact hb _ hh
  · rw [(ho p hp).1, (ho p hp).2]; exact ⟨by decide, by decide⟩

/-- The block b is a list of n slots, of which those of row are in it, in that row. -/
def LruAt (w : World) (b n : Nat) (row : List Nat) : Prop :=
  n ≤ 256 ∧ (∀ x ∈ row, x < n) ∧ ∃ nx la, RawL w b n nx la ∧ Ring (fnOf nx) (fnOf la) (row.map (· + 1))

theorem LruAt.chg {S : List Nat} {w w' : World} {b n : Nat} {row : List Nat} (h : LruAt w b n row) (hc : Chg S w w') (hb : b ∉ S) : LruAt w' b n row := by
  obtain ⟨h1, h2, nx, la, h3, h4⟩ := h
  exact ⟨h1, h2, nx, la, h3.chg hc hb, h4⟩
theorem LruAt.lt {w : World} {b n : Nat} {row : List Nat} (h : LruAt w b n row) : b < w.heap.size := by
  obtain ⟨_, _, _, _, h3, _⟩ := h; exact h3.lt
theorem LruAt.nodup {w : World} {b n : Nat} {row : List Nat} (h : LruAt w b n row) : row.Nodup := by
  obtain ⟨_, _, nx, la, _, h4⟩ := h
  have h1 : (row.map (· + 1)).Pairwise (· ≠ ·) := (List.nodup_cons.1 h4.1).2
  rw [List.pairwise_map] at h1
  exact h1.imp fun hne e => hne (by rw [e])

theorem nodup_le (n : Nat) : ∀ (l : List Nat), l.Nodup → (∀ x ∈ l, x < n) → l.length ≤ n := by
  induction n with
  | zero =>
    intro l _ hlt
    cases l with
    | nil => simp
    | cons x l => exact absurd (hlt x (by simp)) (by simp)
  | succ n ih =>
    intro l hnd hlt
    have h1 := ih (l.erase n) (hnd.erase n) (fun x hx => by
      have h2 := (hnd.mem_erase_iff).1 hx
      have := hlt x h2.2
      omega)
    have h2 : l.length - 1 ≤ (l.erase n).length := by
      rw [List.length_erase]; split <;> omega
    omega
theorem LruAt.len {w : World} {b n : Nat} {row : List Nat} (h : LruAt w b n row) : row.length ≤ 256 :=
  Nat.le_trans (nodup_le n row h.nodup h.2.1) h.1

set_option maxHeartbeats 1000000 in
theorem hang_any (b n p x : Nat) (nx la : List Nat) (w : World) (h : RawL w b n nx la) (hp : p < 257) (hx : fnOf la 0 = x) (hxb : x < 257) :
    Calls Try.prog 30 #[.pointer (some ⟨b, 1, none⟩), .int .i64 p] w fun e w' => e = .returned (.tuple #[]) ∧ RawL w' b n ((nx.set x p).set p 0) ((la.set p x).set 0 p) ∧ Chg [b] w w' := by
  have c0 := h.last 0 (by decide)
  rw [hx] at c0
  clear hx
  have c1 := h.next x hxb
  have c2 := h.last p hp
  have f1 := h.free (1 + x)
  have f2 := h.free (258 + p)
  have hi : (p : Int) < 257 := by omega
  have hix : (x : Int) < 257 := by omega
  obtain ⟨v', hv'⟩ := cell_set_some' (w := w) (p := ⟨b, 1 + x, none⟩) (x := .int .i64 (p : Nat)) (q := ⟨b, 258 + p, none⟩) c2
  go_enter Try.func30, Try.ntmps30
  go_wp2
  go_region
  go_wp2
  refine wp_abs ?_
  intro w2 hw2
  have h2 : RawL w2 b n (nx.set x p) (la.set p x) := by rw [hw2]; exact (h.setNext x p hxb).setLast p x hp
  have hc2 : Chg [b] w w2 := by rw [hw2]; exact ((Chg.set1 _ _ _ _).trans (Chg.set1 _ _ _ _)).drew
  clear hw2 c0 c1 c2 f1 f2 hv' h
  have c1 := h2.next p hp
  have c2 := h2.last 0 (by decide)
  have f1 := h2.free (1 + p)
  have f2 := h2.free (258 + 0)
  obtain ⟨v'', hv''⟩ := cell_set_some' (w := w2) (p := ⟨b, 1 + p, none⟩) (x := .int .i64 0) (q := ⟨b, 258 + 0, none⟩) c2
  go_region
  go_end0
  exact ⟨rfl, (h2.setNext p 0 hp).setLast 0 p (by decide), ((hc2.trans (Chg.set1 _ _ _ _)).trans (Chg.set1 _ _ _ _)).drew⟩

theorem slot_nil (at_ : Int) (w : World) :
    Calls Try.prog 27 #[.pointer none, .int .i64 at_] w fun e w' => e = .returned (.bool false) ∧ w = w' := by
  go_enter Try.func27, Try.ntmps27
  go_wp2
  go_ret
  exact ⟨rfl, rfl⟩
theorem slot_in (b n at_ : Nat) (row : List Nat) (w : World) (h : LruAt w b n row) (hat : at_ < n) :
    Calls Try.prog 27 #[.pointer (some ⟨b, 0, none⟩), .int .i64 at_] w fun e w' => e = .returned (.bool true) ∧ w = w' := by
  obtain ⟨_, _, nx, la, hr, _⟩ := h
  have c0 := hr.slots
  have t1 : decide (0 ≤ (at_ : Int)) = true := by simp
  clear hr
  go_enter Try.func27, Try.ntmps27
  go_wp2
  go_ret
  exact ⟨rfl, rfl⟩
theorem slot_out (b n : Nat) (at_ : Int) (row : List Nat) (w : World) (h : LruAt w b n row) (hat : at_ < 0 ∨ (n : Int) ≤ at_) :
    Calls Try.prog 27 #[.pointer (some ⟨b, 0, none⟩), .int .i64 at_] w fun e w' => e = .returned (.bool false) ∧ w = w' := by
  obtain ⟨_, _, nx, la, hr, _⟩ := h
  have c0 := hr.slots
  clear hr
  by_cases h0 : at_ < 0
  · have t1 : decide (0 ≤ at_) = false := by simp; omega
    clear hat
    go_enter Try.func27, Try.ntmps27
    go_wp2
    go_ret
    exact ⟨rfl, rfl⟩
  · have t1 : decide (0 ≤ at_) = true := by simp; omega
    have t2 : decide (at_ < (n : Int)) = false := by simp; omega
    clear hat
    go_enter Try.func27, Try.ntmps27
    go_wp2
    go_ret
    exact ⟨rfl, rfl⟩

/-- What the row is behind a use of a slot. -/
def useL (row : List Nat) (x : Nat) : List Nat := row.filter (· ≠ x) ++ [x]
/-- What the row is behind a drop of a slot. -/
def dropL (row : List Nat) (x : Nat) : List Nat := row.filter (· ≠ x)

theorem map_filter_succ (row : List Nat) (x : Nat) : (row.map (· + 1)).filter (· ≠ x + 1) = (row.filter (· ≠ x)).map (· + 1) := by
  induction row with
  | nil => rfl
  | cons y l ih =>
    simp only [List.map_cons, List.filter_cons, ih]
    by_cases e : y = x
    · subst e; simp
    · simp [e]
theorem mem_succ (row : List Nat) (x : Nat) : x + 1 ∈ row.map (· + 1) ↔ x ∈ row := by simp

/-- cut, on a list. -/
theorem cut_row (b n x : Nat) (row : List Nat) (pv : Int) (w : World) (h : LruAt w b n row) (hx : x < n) (hpv : pv = ((x + 1 : Nat) : Int)) :
    Calls Try.prog 29 #[.pointer (some ⟨b, 1, none⟩), .int .i64 pv] w fun e w' => e = .returned (.tuple #[]) ∧ LruAt w' b n (dropL row x) ∧ Chg [b] w w' := by
  subst hpv
  obtain ⟨hn, hlt, nx, la, hr, hring⟩ := h
  have hiff := ring_in hring (x + 1) (by omega)
  rw [mem_succ] at hiff
  have hb := ring_bound hring (by intro y hy; simp at hy; obtain ⟨z, hz, rfl⟩ := hy; have := hlt z hz; omega)
  have hlt' : ∀ y ∈ dropL row x, y < n := fun y hy => hlt y (List.mem_filter.1 hy).1
  by_cases hm : x ∈ row
  · refine (cut_yes b n (x + 1) _ _ nx la w hr (by omega) (hiff.2 hm) rfl rfl (hb _).2 (hb _).1).mono ?_
    rintro e w' ⟨rfl, hr', hc⟩
    refine ⟨rfl, ⟨hn, hlt', _, _, hr', ?_⟩, hc⟩
    have hc1 := (ring_cut hring (x + 1) ((mem_succ row x).2 hm)).1
    rw [map_filter_succ] at hc1
    refine ring_congr hc1 ?_ ?_
    · rw [fnOf_set _ _ _ (by simp [hr.1]; omega), fnOf_set _ _ _ (by rw [hr.1]; exact (hb _).2)]
    · rw [fnOf_set _ _ _ (by simp [hr.2.1]; omega), fnOf_set _ _ _ (by rw [hr.2.1]; exact (hb _).1)]
  · have hno : ¬ (fnOf la (x + 1) ≠ 0 ∨ fnOf nx 0 = x + 1) := fun hh => hm (hiff.1 hh)
    have h1 : fnOf la (x + 1) = 0 := Classical.byContradiction fun hh => hno (.inl hh)
    have h2 : fnOf nx 0 ≠ x + 1 := fun hh => hno (.inr hh)
    refine (cut_no b n (x + 1) nx la w hr (by omega) h1 h2).mono ?_
    rintro e w' ⟨rfl, rfl⟩
    refine ⟨rfl, ⟨hn, hlt', nx, la, hr, ?_⟩, Chg.refl _ _⟩
    have : dropL row x = row := List.filter_eq_self.2 fun y hy => by simp; intro e; exact hm (e ▸ hy)
    rw [this]; exact hring

/-- hang, on a list. -/
theorem hang_row (b n x : Nat) (row : List Nat) (pv : Int) (w : World) (h : LruAt w b n row) (hx : x < n) (hm : x ∉ row) (hpv : pv = ((x + 1 : Nat) : Int)) :
    Calls Try.prog 30 #[.pointer (some ⟨b, 1, none⟩), .int .i64 pv] w fun e w' => e = .returned (.tuple #[]) ∧ LruAt w' b n (row ++ [x]) ∧ Chg [b] w w' := by
  subst hpv
  obtain ⟨hn, hlt, nx, la, hr, hring⟩ := h
  have hb := ring_bound hring (by intro y hy; simp at hy; obtain ⟨z, hz, rfl⟩ := hy; have := hlt z hz; omega)
  refine (hang_any b n (x + 1) _ nx la w hr (by omega) rfl (hb _).2).mono ?_
  rintro e w' ⟨rfl, hr', hc⟩
  refine ⟨rfl, ⟨hn, ?_, _, _, hr', ?_⟩, hc⟩
  · intro y hy
    rcases List.mem_append.1 hy with hh | hh
    · exact hlt y hh
    · simp at hh; omega
  · have hc1 := ring_hang hring (x + 1) (by omega) (fun hh => hm ((mem_succ row x).1 hh))
    rw [List.map_append]
    refine ring_congr hc1 ?_ ?_
    · rw [fnOf_set _ _ _ (by simp [hr.1]; omega), fnOf_set _ _ _ (by rw [hr.1]; exact (hb _).2)]
    · rw [fnOf_set _ _ _ (by simp [hr.2.1]), fnOf_set _ _ _ (by rw [hr.2.1]; omega)]

theorem use_nil (at_ : Int) (w : World) :
    Calls Try.prog 16 #[.pointer none, .int .i64 at_] w fun e w' => e = .returned (.int .i64 2) ∧ w = w' := by
  go_enter Try.func16, Try.ntmps16
  go_wp2
  go_ret
  exact ⟨rfl, rfl⟩
theorem use_out (b n : Nat) (at_ : Int) (row : List Nat) (w : World) (h : LruAt w b n row) (hat : at_ < 0 ∨ (n : Int) ≤ at_) :
    Calls Try.prog 16 #[.pointer (some ⟨b, 0, none⟩), .int .i64 at_] w fun e w' => e = .returned (.int .i64 1) ∧ w = w' := by
  have HS := Lib.hid hat
  clear hat
  go_enter Try.func16, Try.ntmps16
  go_wp2_with fail
  refine (slot_out b n at_ row _ h HS.out).mono ?_
  rintro e w' ⟨rfl, rfl⟩
  go_wp2
  go_ret
  exact ⟨rfl, rfl⟩
theorem use_in (b n x : Nat) (row : List Nat) (w : World) (h : LruAt w b n row) (hx : x < n) :
    Calls Try.prog 16 #[.pointer (some ⟨b, 0, none⟩), .int .i64 x] w fun e w' => e = .returned (.int .i64 0) ∧ LruAt w' b n (useL row x) ∧ Chg [b] w w' := by
  have hn := h.1
  go_enter Try.func16, Try.ntmps16
  go_wp2_with fail
  refine (slot_in b n x row _ h hx).mono ?_
  rintro e w' ⟨rfl, rfl⟩
  go_wp2_with fail
  refine (cut_row b n x row _ _ h hx (by omega)).mono ?_
  rintro e w1 ⟨rfl, h1, hc1⟩
  go_wp2_with fail
  refine (hang_row b n x _ _ _ h1 hx (by simp [dropL]) (by omega)).mono ?_
  rintro e w2 ⟨rfl, h2, hc2⟩
  go_wp2
  go_ret
  exact ⟨rfl, h2, hc1.trans hc2⟩

end Go.Proofs.Ytjnipcalncpimaa
