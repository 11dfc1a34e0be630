/- Copies of rows: slices.Clone of waiters, numbers, slots. -/
import Derived.Test.YtopkbchjlifflaaFlC
import Derived.Lib.SliceRun
import Derived.Lib.Walk
namespace Go.Proofs.Ytopkbchjlifflaa
open Go.RowKit Go.Maps

theorem info_sizes {P : Program} {t : TypeId} {s n b : Nat} (h : (P.info? t).map (fun i => (i.zero.map fun z => z.cells.size, i.size, i.bytes)) = some (some s, n, b)) : ∃ i z, P.info? t = some i ∧ i.zero = some z ∧ i.size = n ∧ i.bytes = b ∧ z.cells.size = s := by
  cases hi : P.info? t with
  | none => simp [hi] at h
  | some i =>
    rw [hi] at h
    simp only [Option.map_some, Option.some.injEq, Prod.mk.injEq] at h
    obtain ⟨h1, h2, h3⟩ := h
    obtain ⟨z, hz, hs⟩ := Option.map_eq_some_iff.1 h1
    exact ⟨i, z, rfl, hz, h2, h3, hs⟩
theorem w_one (l : List Wt) : ∀ u ∈ l.flatMap wV, u.oneCell' = true := by
  intro u hu
  obtain ⟨x, _, hx⟩ := List.mem_flatMap.1 hu
  simp [wV] at hx
  rcases hx with rfl | rfl <;> rfl
theorem s_one (l : List Nat) : ∀ u ∈ l.flatMap sV, u.oneCell' = true := by
  intro u hu
  obtain ⟨x, _, hx⟩ := List.mem_flatMap.1 hu
  simp [sV] at hx
  subst hx; rfl
theorem elem_w : (Try.prog.info? 38).map (fun i => (i.zero.map fun z => z.cells.size, i.size, i.bytes)) = some (some 2, 2, 24) := by kernel_rfl
set_option maxHeartbeats 2000000 in
theorem clone_w (base : Nat) (v : Value) (l : List Wt) (w : World) (h : R.OwnR 38 2 wV base w v l) (hl : l.length ≤ 100000) :
    Calls Try.prog 37 #[v] w fun e w' => ∃ v', e = .returned v' ∧ R.OwnR 38 2 wV w.heap.size w' v' l ∧ Chg [] w w' := by
  obtain ⟨a, c, rfl⟩ := h.len
  have q22 := fun (w : World) (a : Option Addr) (n c n' c' : Nat) => Lib.run_eql_slice_nil (P := Try.prog) w 42 _ a n c n' c' Try.underlying42
  obtain ⟨i0, z, hi0, hz0, hz1, hz2, hz3⟩ := info_sizes elem_w
  obtain ⟨s1, s2, s3⟩ := h.src
  have hone := w_one l
  have hfl : (l.flatMap wV).length = l.length * 2 := R.flat_len wV 2 wV_len l
  cases a with
  | none =>
    obtain rfl := s1 rfl
    have h0 : l.flatMap wV = [] := Classical.byContradiction fun hh => s2 hh rfl
    have hll : l = [] := by
      cases l with
      | nil => rfl
      | cons x l => rw [h0] at hfl; simp at hfl
    subst hll
    clear s1 s2 s3 h hone hfl h0
    go_enter Try.func37, Try.ntmps37
    go_wp2
    go_ret
    exact ⟨_, rfl, R.OwnR.nil _ _ _ _ _, Chg.refl _ _⟩
  | some p =>
    have S3 := Lib.hid (s3 p rfl)
    have HFL := Lib.hid hfl
    have HONE := Lib.hid hone
    clear s1 s2 s3 h hone hfl
    obtain ⟨xs, hxs⟩ : ∃ xs, xs = l.flatMap wV := ⟨_, rfl⟩
    rw [← hxs] at S3 HFL HONE
    go_enter Try.func37, Try.ntmps37
    go_wp2_with (at_builtin; refine wpList_append_own _ rfl _ _ 42 rfl w.heap.size 38 i0 z 2 24 Try.underlying42 hi0 hz0 hz1 hz2 hz3 (by omega) _ _ _ rfl (World.ownsRow_made w #[] 0 (Nat.le_refl _) (Nat.zero_le _) (by simp)) p l.length c xs rfl ?qc1 ?qc2 ?qc3 ?qc4 ?qc5 ?qc6 ?_)
    case qc1 => exact HFL.out
    case qc2 => exact fun j u hj => ((Chg.refl [] w).alloc _).cell (S3.out j u hj) (by simp)
    case qc3 => exact HONE.out
    case qc4 => unfold maxLen; omega
    case qc5 => omega
    case qc6 => simp
    intro v' w1 hown hgrow _
    go_wp2
    go_ret
    refine ⟨v', rfl, ?_, ?_⟩
    · unfold R.OwnR
      simpa using hown
    · exact ((Chg.refl [] w).alloc _).grown hgrow (fun k hk => by simp [Value.ownBlock] at hk; right; omega)
theorem elem_s : (Try.prog.info? 3).map (fun i => (i.zero.map fun z => z.cells.size, i.size, i.bytes)) = some (some 1, 1, 8) := by kernel_rfl
set_option maxHeartbeats 2000000 in
theorem clone_s (base : Nat) (v : Value) (l : List Nat) (w : World) (h : R.OwnR 3 1 sV base w v l) (hl : l.length ≤ 100000) :
    Calls Try.prog 40 #[v] w fun e w' => ∃ v', e = .returned v' ∧ R.OwnR 3 1 sV w.heap.size w' v' l ∧ Chg [] w w' := by
  obtain ⟨a, c, rfl⟩ := h.len
  have q22 := fun (w : World) (a : Option Addr) (n c n' c' : Nat) => Lib.run_eql_slice_nil (P := Try.prog) w 48 _ a n c n' c' Try.underlying48
  obtain ⟨i0, z, hi0, hz0, hz1, hz2, hz3⟩ := info_sizes elem_s
  obtain ⟨s1, s2, s3⟩ := h.src
  have hone := s_one l
  have hfl : (l.flatMap sV).length = l.length * 1 := R.flat_len sV 1 sV_len l
  cases a with
  | none =>
    obtain rfl := s1 rfl
    have h0 : l.flatMap sV = [] := Classical.byContradiction fun hh => s2 hh rfl
    have hll : l = [] := by
      cases l with
      | nil => rfl
      | cons x l => rw [h0] at hfl; simp at hfl
    subst hll
    clear s1 s2 s3 h hone hfl h0
    go_enter Try.func40, Try.ntmps40
    go_wp2
    go_ret
    exact ⟨_, rfl, R.OwnR.nil _ _ _ _ _, Chg.refl _ _⟩
  | some p =>
    have S3 := Lib.hid (s3 p rfl)
    have HFL := Lib.hid hfl
    have HONE := Lib.hid hone
    clear s1 s2 s3 h hone hfl
    obtain ⟨xs, hxs⟩ : ∃ xs, xs = l.flatMap sV := ⟨_, rfl⟩
    rw [← hxs] at S3 HFL HONE
    go_enter Try.func40, Try.ntmps40
    go_wp2_with (at_builtin; refine wpList_append_own _ rfl _ _ 48 rfl w.heap.size 3 i0 z 1 8 Try.underlying48 hi0 hz0 hz1 hz2 hz3 (by omega) _ _ _ rfl (World.ownsRow_made w #[] 0 (Nat.le_refl _) (Nat.zero_le _) (by simp)) p l.length c xs rfl ?qc1 ?qc2 ?qc3 ?qc4 ?qc5 ?qc6 ?_)
    case qc1 => exact HFL.out
    case qc2 => exact fun j u hj => ((Chg.refl [] w).alloc _).cell (S3.out j u hj) (by simp)
    case qc3 => exact HONE.out
    case qc4 => unfold maxLen; omega
    case qc5 => omega
    case qc6 => simp
    intro v' w1 hown hgrow _
    go_wp2
    go_ret
    refine ⟨v', rfl, ?_, ?_⟩
    · unfold R.OwnR
      simpa using hown
    · exact ((Chg.refl [] w).alloc _).grown hgrow (fun k hk => by simp [Value.ownBlock] at hk; right; omega)

section
variable (F : List Nat) (tb n m : Nat) (L : List Fl) (w : World)
theorem row_any (h : FT F w tb n m L) :
    Calls Try.prog 18 #[.pointer (some ⟨tb, 0, none⟩)] w fun e w' => ∃ v, e = .returned v ∧ R.OwnR 3 1 sV w.heap.size w' v (slotsF L) ∧ Chg [] w w' := by
  have hlen : (slotsF L).length ≤ 32 := by have := h.ok.len; have := h.n32; simp [slotsF]; omega
  obtain ⟨sb, mb, rv, es, cp, tl, h⟩ := h
  have c2 : w.cell? ⟨tb, 2, none⟩ = some rv := cell_of h.head
  have hr := h.row
  obtain ⟨l, hl⟩ : ∃ l, l = slotsF L := ⟨_, rfl⟩
  rw [← hl] at hr hlen ⊢
  obtain ⟨a, c, rfl⟩ := hr.len
  have HR := Lib.hid hr
  clear h hl hr
  go_enter Try.func18, Try.ntmps18
  go_wp2_with fail
  refine (clone_s 0 _ l _ HR.out (by omega)).mono ?_
  rintro e w1 ⟨v, rfl, ho, hc⟩
  go_wp2
  go_ret
  exact ⟨v, rfl, ho, hc⟩
theorem row_nil : Calls Try.prog 18 #[.pointer none] w fun e w' => e = .returned (.slice none 0 0) ∧ w = w' := by
  go_enter Try.func18, Try.ntmps18
  go_wp2
  go_ret
  exact ⟨rfl, rfl⟩
end

end Go.Proofs.Ytopkbchjlifflaa
