/- The walks of package repute: Copy, New. -/
import Derived.Test.YtdbannnbbngckaaRepF
import Derived.Deep.RegionLaw
namespace Go.Proofs.Ytdbannnbbngckaa
open Go.RowKit

theorem Try.elemUp : (Try.prog.info? 63).map (fun i => (i.zero, i.size, i.bytes)) = some (some (.agg #[.int .i64 0, .int .i64 0, .int .i64 0, .int .i64 0, .bool false, .bool false, .int .i64 0]), 7, 48) := by kernel_rfl

theorem upsV_one (us : List Up) : ∀ u ∈ upsV us, u.oneCell' = true := by
  induction us with
  | nil => intro u hu; simp [upsV] at hu
  | cons p l ih =>
    intro u hu
    simp only [upsV] at hu
    rcases List.mem_append.1 hu with hu | hu
    · simp only [upV, List.mem_cons, List.not_mem_nil, or_false] at hu
      rcases hu with rfl | rfl | rfl | rfl | rfl | rfl | rfl <;> rfl
    · exact ih u hu

/-- A row of the call's own that holds upstreams. -/
theorem ups_of_own {w : World} {base : Nat} {T : TypeId} {v : Value} {us : List Up} (h : w.ownsRow base T 7 v us.length (upsV us)) (hpos : 0 < us.length) : ∃ g cap, v = .slice (some ⟨g, 0, none⟩) us.length cap ∧ base ≤ g ∧ us.length ≤ cap ∧ UpsAt T w g us := by
  obtain ⟨_, h⟩ := h
  rcases h with ⟨_, hn⟩ | ⟨g, cap, cur, hv, hg, hb, h1, h2, h3, h4⟩
  · omega
  · refine ⟨g, cap, hv, hg, h1, cur.toList.drop (us.length * 7), ?_⟩
    rw [hb]
    congr 2
    rw [← h4, List.take_append_drop]

set_option maxRecDepth 100000 in
set_option maxHeartbeats 2000000 in
theorem copy_any (b r L R : Nat) (us : List Up) (w : World) (h : Book w b r L R us) (hpos : 0 < us.length) :
    Calls Try.prog 28 #[.pointer (some ⟨b, 0, none⟩)] w fun e w' => ∃ b' r', e = .returned (.pointer (some ⟨b', 0, none⟩)) ∧ w.heap.size ≤ b' ∧ w.heap.size ≤ r' ∧ Book w' b' r' L R us ∧ Chg [] w w' := by
  have hlen := h.len
  have k0 := h.c0
  have k1 := h.c1
  obtain ⟨cap, hcap, k2⟩ := h.c2
  obtain ⟨i0, hi0, hz0, hz1, hz2⟩ := info_parts Try.elemUp
  have hnew : w.drew.ownsRow w.heap.size 63 7 (.slice none 0 0) 0 [] := ⟨rfl, .inl ⟨rfl, rfl⟩⟩
  have HNEW := Lib.hid hnew
  have hsrc : ∀ p, some (⟨r, 0, none⟩ : Addr) = some p → ∀ j u, (upsV us)[j]? = some u → w.drew.cell? (p.add j) = some u := by
    intro p hp j u hj
    cases hp
    obtain ⟨rest, hr⟩ := h.row
    rw [add_at, Nat.zero_add]
    show w.cell? ⟨r, j, none⟩ = _
    rw [cell_of hr, List.getElem?_toArray]
    have hjl : j < (upsV us).length := by
      rcases Nat.lt_or_ge j (upsV us).length with hh | hh
      · exact hh
      · rw [List.getElem?_eq_none hh] at hj; cases hj
    rw [List.getElem?_append_left hjl]; exact hj
  have HSRC := Lib.hid hsrc
  have HONE := Lib.hid (upsV_one us)
  have HUL := Lib.hid (upsV_len us)
  have HH := Lib.hid h
  clear hnew hsrc h
  go_enter Try.func28, Try.ntmps28
  go_wp2
  go_region_law (refine step_append_src rfl (.const (.slice none 0 0)) (.tmp 16) 35 rfl w.heap.size 63 i0 _ 7 48 Try.underlying35 hi0 hz0 hz1 hz2 rfl (by decide) (.slice none 0 0) 0 [] rfl HNEW.out (some ⟨r, 0, none⟩) us.length cap (upsV us) rfl (by simp) (by simp) HUL.out HSRC.out HONE.out (by unfold maxLen; omega) (by omega) (by simp) ?_; intro v1 w1 hown1 hg1 _; rw [Nat.zero_add, List.nil_append] at hown1; obtain ⟨g, c1, hv1, hgb, hgc, hups⟩ := ups_of_own hown1 hpos; subst hv1; have hc1 : Chg [] w w1 := ((Chg.refl [] w).drew).grown hg1 (fun k hk => (by simp [Value.ownBlock] at hk)); have k0' := hc1.cell k0 (by simp); have k1' := hc1.cell k1 (by simp))
  all_goals
    go_wp2
    go_ret
    refine ⟨_, g, rfl, hc1.size, hgb, ?_, hc1.alloc _⟩
    have hgl := hups.lt
    exact ⟨HH.out.hL, HH.out.hR, HH.out.len, HH.out.ok, by omega, ⟨c1, hgc, heap_new _ _⟩, hups.chg ((Chg.refl [] _).alloc _) (by simp)⟩

theorem newOut_any (n L R : Int) (w : World) (h : n < 1 ∨ 9 < n ∨ n % 2 = 0 ∨ L < 1 ∨ 100 < L ∨ R < 1 ∨ 100000 < R) :
    Calls Try.prog 9 #[.int .i64 n, .int .i64 L, .int .i64 R] w fun e w' => e = .returned (.tuple #[.pointer none, .int .i64 1]) ∧ w = w' := by
  by_cases h1 : n < 1
  · go_enter Try.func9, Try.ntmps9
    go_wp2
    go_ret2
    exact ⟨rfl, rfl⟩
  have d1 : decide (n < 1) = false := by simpa using h1
  by_cases h2 : 9 < n
  · go_enter Try.func9, Try.ntmps9
    go_wp2
    go_ret2
    exact ⟨rfl, rfl⟩
  have d2 : decide (9 < n) = false := by simpa using h2
  have b1 : 1 ≤ n := by omega
  have b2 : n ≤ 9 := by omega
  by_cases h3 : n % 2 = 0
  · have d3 : (n % 2 == 0) = true := by simp [h3]
    clear h3
    go_enter Try.func9, Try.ntmps9
    go_wp2
    go_ret2
    exact ⟨rfl, rfl⟩
  have d3 : (n % 2 == 0) = false := by simp; omega
  by_cases h4 : L < 1
  · clear h3
    go_enter Try.func9, Try.ntmps9
    go_wp2
    go_ret2
    exact ⟨rfl, rfl⟩
  have d4 : decide (L < 1) = false := by simpa using h4
  by_cases h5 : 100 < L
  · clear h3
    go_enter Try.func9, Try.ntmps9
    go_wp2
    go_ret2
    exact ⟨rfl, rfl⟩
  have d5 : decide (100 < L) = false := by simpa using h5
  by_cases h6 : R < 1
  · clear h3
    go_enter Try.func9, Try.ntmps9
    go_wp2
    go_ret2
    exact ⟨rfl, rfl⟩
  have d6 : decide (R < 1) = false := by simpa using h6
  have h7 : 100000 < R := by omega
  clear h3 h
  go_enter Try.func9, Try.ntmps9
  go_wp2
  go_ret2
  exact ⟨rfl, rfl⟩

theorem make_ups (n : Nat) (hn : n = 1 ∨ n = 3 ∨ n = 5 ∨ n = 7 ∨ n = 9) (w : World) :
    (Instr.makeSlice 35 (.int .i64 (n : Int)) (.int .i64 (n : Int))).run Try.prog w = .ok (.slice (some ⟨w.heap.size, 0, none⟩) n n) (w.alloc (.cells (upsV (List.replicate n noUp)).toArray 63)) := by
  rcases hn with rfl | rfl | rfl | rfl | rfl <;> kernel_rfl

def NewR (b r L R n : Nat) (w : World) (i : Value) (wr : World) : Prop :=
  ∃ k : Nat, k ≤ n ∧ i = .int .i64 k ∧ wr.heap[b]? = some (.cells #[.int .i64 L, .int .i64 R, .slice (some ⟨r, 0, none⟩) n n] 37 (0, 0)) ∧ UpsAt 63 wr r (List.replicate k up0 ++ List.replicate (n - k) noUp) ∧ Chg [] w wr

set_option maxRecDepth 100000 in
set_option maxHeartbeats 2000000 in
theorem new_any (n L R : Nat) (w : World) (hn : n = 1 ∨ n = 3 ∨ n = 5 ∨ n = 7 ∨ n = 9) (hL1 : 1 ≤ L) (hL : L ≤ 100) (hR1 : 1 ≤ R) (hR : R ≤ 100000) :
    Calls Try.prog 9 #[.int .i64 n, .int .i64 L, .int .i64 R] w fun e w' => ∃ b r, e = .returned (.tuple #[.pointer (some ⟨b, 0, none⟩), .int .i64 0]) ∧ w.heap.size ≤ b ∧ w.heap.size ≤ r ∧ Book w' b r L R (newB n) ∧ Chg [] w w' := by
  have hmk := make_ups n hn
  obtain ⟨C, hC⟩ : ∃ C, C = (upsV (List.replicate n noUp)).toArray := ⟨_, rfl⟩
  rw [← hC] at hmk
  have HC := Lib.hid hC
  have d1 : decide ((n : Int) < 1) = false := by simp; omega
  have d2 : decide (9 < (n : Int)) = false := by simp; omega
  have d3 : ((n : Int) % 2 == 0) = false := by simp; omega
  have d4 : decide ((L : Int) < 1) = false := by simp; omega
  have d5 : decide (100 < (L : Int)) = false := by simp; omega
  have d6 : decide ((R : Int) < 1) = false := by simp; omega
  have d7 : decide (100000 < (R : Int)) = false := by simp; omega
  have n9 : n ≤ 9 := by omega
  have HN := Lib.hid hn
  clear hn hC
  go_enter Try.func9, Try.ntmps9
  go_wp2
  clear hmk
  obtain ⟨r, hr⟩ : ∃ r, r = w.heap.size := ⟨_, rfl⟩
  refine wp_abs ?_
  intro w0 hw0
  have hb0 : w0.heap[r + 1]? = some (.cells #[.int .i64 L, .int .i64 R, .slice (some ⟨r, 0, none⟩) n n] 37 (0, 0)) := by
    rw [hw0, hr]; exact heap_new' _ _ _ (by simp)
  have hr0 : UpsAt 63 w0 r (List.replicate n noUp) := by
    refine ⟨[], ?_⟩
    rw [hw0, hr, HC.out, List.append_nil]; exact heap_old (heap_new _ _)
  have hC0 : Chg [] w w0 := by rw [hw0]; exact ((Chg.refl _ _).alloc _).alloc _
  rw [← hr]
  have hwr : w.heap.size ≤ r := by omega
  clear hw0 hr
  go_loopw [48] (NewR (r + 1) r L R n w) (fun i _ => n - (intOf i).toNat)
  case atStart => exact ⟨0, Nat.zero_le _, rfl, hb0, by simpa using hr0, hC0⟩
  case round =>
    clear hb0 hr0 hC0
    obtain ⟨k, hk, rfl, hb, hrow, hC⟩ := hrel
    by_cases hlt : k < n
    · have hni : (k : Int) < (n : Int) := by omega
      have hkl : k < (List.replicate k up0 ++ List.replicate (n - k) noUp).length := by simp; omega
      have hget : (List.replicate k up0 ++ List.replicate (n - k) noUp)[k] = noUp := by
        rw [List.getElem_append_right (by simp)]; simp
      have hset : (List.replicate k up0 ++ List.replicate (n - k) noUp).set k up0 = List.replicate (k + 1) up0 ++ List.replicate (n - (k + 1)) noUp := by
        rw [List.set_append_right _ _ (by simp), List.length_replicate, Nat.sub_self, show n - k = (n - (k + 1)) + 1 by omega, List.replicate_succ, List.set_cons_zero, List.replicate_succ', List.append_assoc]
        rfl
      have c2 : wr.cell? ⟨r + 1, 2, none⟩ = some (.slice (some ⟨r, 0, none⟩) n n) := (cell_of hb).trans rfl
      have o0 := (hrow.one k hkl).c0
      have f0 := hrow.fr (k * 7)
      have hrow2 := hrow.upd k 0 noUp up0 hkl hget (by decide) (.int .i64 100) rfl
      rw [hset] at hrow2
      have HROW := Lib.hid hrow2
      clear hrow2 hset hget
      go_wp2
      go_roundw
      case rel => exact ⟨k + 1, by omega, by go_num, (heap_set_other _ (by omega)).trans hb, HROW.out, hC.setCell (.inr hwr) _⟩
      case measure => simp [intOf] <;> omega
    · obtain rfl : k = n := by omega
      rw [Nat.sub_self, List.replicate_zero, List.append_nil] at hrow
      go_wp2
      go_ret2
      exact ⟨r + 1, r, rfl, by omega, hwr, ⟨hL, hR, by simpa [newB] using n9, newB_ok k, by omega, ⟨k, by simp [newB], by simpa [newB] using hb⟩, hrow⟩, hC⟩

end Go.Proofs.Ytdbannnbbngckaa
