/- The walk of package lru: Drop. -/
import Derived.Test.YtjnipcalncpimaaLruE
namespace Go.Proofs.Ytjnipcalncpimaa
open Go.RowKit

/-- cut, on a list, with what becomes of its rows. -/
theorem cut_raw (b n x : Nat) (row : List Nat) (nx la : List Nat) (pv : Int) (w : World) (hn : n ≤ 256) (hlt : ∀ y ∈ row, y < n) (hr : RawL w b n nx la) (hring : Ring (fnOf nx) (fnOf la) (row.map (· + 1))) (hx : x < n) (hpv : pv = ((x + 1 : Nat) : Int)) :
    Calls Try.prog 29 #[.pointer (some ⟨b, 1, none⟩), .int .i64 pv] w fun e w' => e = .returned (.tuple #[]) ∧
      ∃ nx' la', RawL w' b n nx' la' ∧ Ring (fnOf nx') (fnOf la') ((dropL row x).map (· + 1)) ∧ (x ∈ row → nx' ≠ nx) ∧ (x ∉ row → nx' = nx ∧ la' = la) ∧ Chg [b] w w' := by
  subst hpv
  have hiff := ring_in hring (x + 1) (by omega)
  rw [mem_succ] at hiff
  have hb := ring_bound hring (by intro y hy; simp at hy; obtain ⟨z, hz, rfl⟩ := hy; have := hlt z hz; omega)
  by_cases hm : x ∈ row
  · refine (cut_yes b n (x + 1) _ _ nx la w hr (by omega) (hiff.2 hm) rfl rfl (hb _).2 (hb _).1).mono ?_
    rintro e w' ⟨rfl, hr', hc⟩
    obtain ⟨hc1, hc2⟩ := ring_cut hring (x + 1) ((mem_succ row x).2 hm)
    rw [map_filter_succ] at hc1
    have e1 : fnOf ((nx.set (fnOf la (x + 1)) (fnOf nx (x + 1))).set (x + 1) 0) = upd (upd (fnOf nx) (fnOf la (x + 1)) (fnOf nx (x + 1))) (x + 1) 0 := by
      rw [fnOf_set _ _ _ (by simp [hr.1]; omega), fnOf_set _ _ _ (by rw [hr.1]; exact (hb _).2)]
    refine ⟨rfl, _, _, hr', ring_congr hc1 e1.symm ?_, ?_, fun hh => absurd hm hh, hc⟩
    · rw [fnOf_set _ _ _ (by simp [hr.2.1]; omega), fnOf_set _ _ _ (by rw [hr.2.1]; exact (hb _).1)]
    · intro _ he
      apply hc2
      rw [← e1, he]
  · have hno : ¬ (fnOf la (x + 1) ≠ 0 ∨ fnOf nx 0 = x + 1) := fun hh => hm (hiff.1 hh)
    have h1 : fnOf la (x + 1) = 0 := Classical.byContradiction fun hh => hno (.inl hh)
    have h2 : fnOf nx 0 ≠ x + 1 := fun hh => hno (.inr hh)
    refine (cut_no b n (x + 1) nx la w hr (by omega) h1 h2).mono ?_
    rintro e w' ⟨rfl, rfl⟩
    refine ⟨rfl, nx, la, hr, ?_, fun hh => absurd hh hm, fun _ => ⟨rfl, rfl⟩, Chg.refl _ _⟩
    have : dropL row x = row := List.filter_eq_self.2 fun y hy => by simp; intro e; exact hm (e ▸ hy)
    rw [this]; exact hring

theorem ints_alike (l m : List Nat) (hl : l.length = 257) (hm : m.length = 257) (r : Bool) (hr : r = decide (l = m)) (w : World) :
    (Op.equalIn 10000 46 (.agg (rowI .i64 l)) (.agg (rowI .i64 m))).run Try.prog w = .ok r w := by
  obtain ⟨i0, hi0, hz0, hz1, hz2⟩ := info_parts Try.elemInt
  rw [hr]
  exact run_equal_rows 9998 46 3 257 .i64 i0 l m Try.underlying46 Try.underlying3 hi0 hz1 hl hm

set_option maxRecDepth 100000 in
set_option maxHeartbeats 2000000 in
theorem drop_in (b n x : Nat) (r : Bool) (row : List Nat) (w : World) (h : LruAt w b n row) (hx : x < n) (hr : r = decide (x ∈ row)) :
    Calls Try.prog 14 #[.pointer (some ⟨b, 0, none⟩), .int .i64 x] w fun e w' => e = .returned (.bool r) ∧ LruAt w' b n (dropL row x) ∧ Chg [b] w w' := by
  have h0 := h
  obtain ⟨hn, hlt, nx, la, hraw, hring⟩ := h
  have hzv := ring_zeroV
  have HLD := Lib.hid (lru_ring_load hraw)
  have hst := run_storeCells_new (P := Try.prog) w 48 (ringCells zerosL zerosL) (ringCells nx la) (by rw [ring_size, ringCells_size _ _ hraw.1 hraw.2.1]) (by rw [ringCells_size _ _ hraw.1 hraw.2.1, ringCells_size _ _ zerosL_length zerosL_length]) (ringCells_one _ _)
  have hsz := ringCells_size nx la hraw.1 hraw.2.1
  have HLT := Lib.hid hlt
  have HR := Lib.hid hr
  clear hlt hr
  go_enter Try.func14, Try.ntmps14
  go_wp2_with fail
  refine (slot_in b n x row _ h0 hx).mono ?_
  rintro e w' ⟨rfl, rfl⟩
  go_wp2_with (refine wpList_load_known rfl 48 _ rfl _ (.agg (ringCells nx la)) rfl HLD.out ?_)
  obtain ⟨q, hq⟩ : ∃ q, q = w.heap.size := ⟨_, rfl⟩
  have hqb : q ≠ b := by have := hraw.lt; omega
  have hqh : (w.alloc (.cells (ringCells nx la) 48)).heap[q]? = some (.cells (ringCells nx la) 48 (0, 0)) := heap_new' _ _ _ hq
  rw [← hq]
  clear hst hzv
  refine (cut_raw b n x row nx la _ _ hn HLT.out (hraw.chg (S := []) ((Chg.refl _ _).alloc _) (by simp)) hring hx (by omega)).mono ?_
  rintro e w2 ⟨rfl, nx', la', hr2, hring2, hyes, hno, hc2⟩
  have hqh2 := hc2.keep hqh (by simpa using hqb)
  have hC2 : Chg [b] w w2 := ((Chg.refl [b] w).alloc _).trans hc2
  have hl1 := fun m => lru_next_row (hr2.drewN m)
  have hl2 := fun m => lru_last_row (hr2.drewN m)
  have hl3 := fun (m : Nat) => ring_next_row (w := w2.drewN m) hraw.1 hqh2
  have hl4 := fun (m : Nat) => ring_last_row (w := w2.drewN m) hraw.1 hraw.2.1 hqh2
  have hlt2 : ∀ y ∈ dropL row x, y < n := fun y hy => HLT.out y (List.mem_filter.1 hy).1
  have HLT2 := Lib.hid hlt2
  have HQ2 := Lib.hid hqh2
  have HYES := Lib.hid hyes
  have HNO := Lib.hid hno
  clear hq hqh hqh2 hc2 hyes hno hlt2 hsz HLD
  by_cases hm : x ∈ row
  · have e1 := ints_alike nx' nx hr2.1 hraw.1 false (by simp [HYES.out hm])
    have hrt : r = true := by rw [HR.out]; simp [hm]
    clear hm HYES HNO HR
    go_wp2_with fail
    refine wp_region_quiet_lit (by kernel_rfl) (by kernel_rfl) ?_
    iterate 4 go_big_quiet_step (fail)
    (go_big_quiet_want; refine quiet_load_known 46 (.tmp 23) rfl _ _ rfl (fun w' hw' => by obtain ⟨m, rfl⟩ := hw'; exact hl1 m) ?_; go_simp; go_big_quiet_on)
    go_big_quiet_step (fail)
    (go_big_quiet_want; refine quiet_load_known 46 (.tmp 25) rfl _ _ rfl (fun w' hw' => by obtain ⟨m, rfl⟩ := hw'; exact hl3 m) ?_; go_simp; go_big_quiet_on)
    repeat (go_big_quiet_step (fail))
    refine wpQuiet_nil ?_
    intro _ hw'
    obtain ⟨nq, hw''⟩ := hw'
    subst hw''
    go_wp2
    go_ret
    subst hrt
    exact ⟨rfl, ⟨hn, HLT2.out, nx', la', hr2, hring2⟩, hC2.drewN _⟩
  · obtain ⟨e1, e2⟩ := HNO.out hm
    have g1 := ints_alike nx' nx hr2.1 hraw.1 true (by simp [e1])
    have g2 := ints_alike la' la hr2.2.1 hraw.2.1 true (by simp [e2])
    have hrt : r = false := by rw [HR.out]; simp [hm]
    clear hm HYES HNO HR e1 e2
    go_wp2_with fail
    refine wp_region_quiet_lit (by kernel_rfl) (by kernel_rfl) ?_
    iterate 4 go_big_quiet_step (fail)
    (go_big_quiet_want; refine quiet_load_known 46 (.tmp 23) rfl _ _ rfl (fun w' hw' => by obtain ⟨m, rfl⟩ := hw'; exact hl1 m) ?_; go_simp; go_big_quiet_on)
    go_big_quiet_step (fail)
    (go_big_quiet_want; refine quiet_load_known 46 (.tmp 25) rfl _ _ rfl (fun w' hw' => by obtain ⟨m, rfl⟩ := hw'; exact hl3 m) ?_; go_simp; go_big_quiet_on)
    iterate 6 go_big_quiet_step (fail)
    (go_big_quiet_want; refine quiet_load_known 46 (.tmp 32) rfl _ _ rfl (fun w' hw' => by obtain ⟨m, rfl⟩ := hw'; exact hl2 m) ?_; go_simp; go_big_quiet_on)
    go_big_quiet_step (fail)
    (go_big_quiet_want; refine quiet_load_known 46 (.tmp 34) rfl _ _ rfl (fun w' hw' => by obtain ⟨m, rfl⟩ := hw'; exact hl4 m) ?_; go_simp; go_big_quiet_on)
    repeat (go_big_quiet_step (fail))
    refine wpQuiet_nil ?_
    intro _ hw'
    obtain ⟨nq, hw''⟩ := hw'
    subst hw''
    go_wp2
    go_ret
    subst hrt
    exact ⟨rfl, ⟨hn, HLT2.out, nx', la', hr2, hring2⟩, hC2.drewN _⟩

end Go.Proofs.Ytjnipcalncpimaa
