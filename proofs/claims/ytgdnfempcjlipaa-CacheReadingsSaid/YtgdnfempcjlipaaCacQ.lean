/- Clones of the entries and of rows of slots. -/
import Derived.Test.YtgdnfempcjlipaaCacP
namespace Go.Proofs.Ytgdnfempcjlipaa
open Go.RowKit Go.Maps

theorem int_one (l : List Nat) : ∀ u ∈ l.flatMap intV, u.oneCell' = true := one_of (fun x u hu => by simp [intV] at hu; subst hu; rfl) l
theorem e_one (l : List EnV) (h : ∀ e ∈ l, sliceB e.sv = true ∧ sliceB e.ov = true) : ∀ u ∈ l.flatMap eV, u.oneCell' = true := by
  intro u hu
  obtain ⟨x, hx0, hx⟩ := List.mem_flatMap.1 hu
  obtain ⟨h1, h2⟩ := h x hx0
  simp [eV] at hx
  rcases hx with rfl | rfl | rfl | rfl | rfl | rfl | rfl
  all_goals first | rfl | exact slice_one h1 | exact slice_one h2
theorem elem_e : (Try.prog.info? 78).map (fun i => (i.zero.map fun z => z.cells.size, i.size, i.bytes)) = some (some 7, 7, 88) := by kernel_rfl
set_option maxRecDepth 100000 in
theorem elem_int : (Try.prog.info? 3).map (fun i => (i.zero.map fun z => z.cells.size, i.size, i.bytes)) = some (some 1, 1, 8) := by kernel_rfl
set_option maxRecDepth 100000 in
set_option maxHeartbeats 2000000 in
theorem clone_s (base : Nat) (v : Value) (l : List Nat) (w : World) (h : R.OwnR 3 1 intV base w v l) (hl : l.length ≤ 1000) :
    Calls Try.prog 42 #[v] w fun e w' => ∃ v', e = .returned v' ∧ R.OwnR 3 1 intV w.heap.size w' v' l ∧ Chg [] w w' := by
  obtain ⟨a, c, rfl⟩ := h.len
  have q22 := fun (w : World) (a : Option Addr) (n c n' c' : Nat) => Lib.run_eql_slice_nil (P := Try.prog) w 75 _ a n c n' c' Try.underlying75
  obtain ⟨i0, z, hi0, hz0, hz1, hz2, hz3⟩ := info_sizes elem_int
  obtain ⟨s1, s2, s3⟩ := h.src
  have hone := int_one l
  have hfl : (l.flatMap intV).length = l.length * 1 := R.flat_len intV 1 intV_len l
  cases a with
  | none =>
    obtain rfl := s1 rfl
    have h0 : l.flatMap intV = [] := Classical.byContradiction fun hh => s2 hh rfl
    have hll : l = [] := by
      cases l with
      | nil => rfl
      | cons x l => rw [h0] at hfl; simp at hfl
    subst hll
    clear s1 s2 s3 h hone hfl h0
    go_enter Try.func42, Try.ntmps42
    go_wp2
    go_ret
    exact ⟨_, rfl, R.OwnR.nil _ _ _ _ _, Chg.refl _ _⟩
  | some p =>
    have S3 := Lib.hid (s3 p rfl)
    have HFL := Lib.hid hfl
    have HONE := Lib.hid hone
    clear s1 s2 s3 h hone hfl
    obtain ⟨xs, hxs⟩ : ∃ xs, xs = l.flatMap intV := ⟨_, rfl⟩
    rw [← hxs] at S3 HFL HONE
    go_enter Try.func42, Try.ntmps42
    go_wp2_with (at_builtin; refine wpList_append_own _ rfl _ _ 75 rfl w.heap.size 3 i0 z 1 8 Try.underlying75 hi0 hz0 hz1 hz2 hz3 (by omega) _ _ _ rfl (World.ownsRow_made w #[] 0 (Nat.le_refl _) (Nat.zero_le _) (by simp)) p l.length c xs rfl ?qc1 ?qc2 ?qc3 ?qc4 ?qc5 ?qc6 ?_)
    case qc1 => exact HFL.out
    case qc2 => exact fun j u hj => ((Chg.refl [] w).alloc _).cell (S3.out j u hj) (by simp)
    case qc3 => exact HONE.out
    case qc4 => unfold maxLen; omega
    case qc5 => omega
    case qc6 => simp
    intro v' w1 hown hgrow _
    go_wp2
    go_ret
    refine ⟨v', rfl, ?_, ?_⟩
    · unfold R.OwnR
      simpa using hown
    · exact ((Chg.refl [] w).alloc _).grown hgrow (fun k hk => by simp [Value.ownBlock] at hk; right; omega)

set_option maxRecDepth 100000 in
set_option maxHeartbeats 2000000 in
theorem clone_e (sb n c : Nat) (l : List EnV) (w : World) (hn : n = l.length) (hl : l.length ≤ 1000) (hl1 : ∀ e ∈ l, sliceB e.sv = true ∧ sliceB e.ov = true) (hc : ∀ j u, (l.flatMap eV)[j]? = some u → w.cell? ((⟨sb, 0, none⟩ : Addr).add j) = some u) :
    Calls Try.prog 41 #[.slice (some ⟨sb, 0, none⟩) n c] w fun e w' => ∃ v', e = .returned v' ∧ R.OwnR 78 7 eV w.heap.size w' v' l ∧ Chg [] w w' := by
  have q22 := fun (w : World) (a : Option Addr) (n c n' c' : Nat) => Lib.run_eql_slice_nil (P := Try.prog) w 65 _ a n c n' c' Try.underlying65
  obtain ⟨i0, z, hi0, hz0, hz1, hz2, hz3⟩ := info_sizes elem_e
  have hone := e_one l hl1
  have hfl : (l.flatMap eV).length = l.length * 7 := R.flat_len eV 7 eV_len l
  have HC := Lib.hid hc
  have HFL := Lib.hid hfl
  have HONE := Lib.hid hone
  subst hn
  clear hc hone hfl hl1
  obtain ⟨xs, hxs⟩ : ∃ xs, xs = l.flatMap eV := ⟨_, rfl⟩
  rw [← hxs] at HC HFL HONE
  have HXS := Lib.hid hxs
  clear hxs
  go_enter Try.func41, Try.ntmps41
  go_wp2_with (at_builtin; refine wpList_append_own _ rfl _ _ 65 rfl w.heap.size 78 i0 z 7 88 Try.underlying65 hi0 hz0 hz1 hz2 hz3 (by omega) _ _ _ rfl (World.ownsRow_made w #[] 0 (Nat.le_refl _) (Nat.zero_le _) (by simp)) ⟨sb, 0, none⟩ l.length c xs rfl ?qc1 ?qc2 ?qc3 ?qc4 ?qc5 ?qc6 ?_)
  case qc1 => exact HFL.out
  case qc2 => exact fun j u hj => ((Chg.refl [] w).alloc _).cell (HC.out j u hj) (by simp)
  case qc3 => exact HONE.out
  case qc4 => unfold maxLen; omega
  case qc5 => omega
  case qc6 => simp
  intro v' w1 hown hgrow _
  go_wp2
  go_ret
  refine ⟨v', rfl, ?_, ?_⟩
  · unfold R.OwnR
    rw [← HXS.out]
    simpa using hown
  · exact ((Chg.refl [] w).alloc _).grown hgrow (fun k hk => by simp [Value.ownBlock] at hk; right; omega)
end Go.Proofs.Ytgdnfempcjlipaa
