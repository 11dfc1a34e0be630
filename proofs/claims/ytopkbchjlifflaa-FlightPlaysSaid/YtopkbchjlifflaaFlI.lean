/- The walks of New and Copy. -/
import Derived.Test.YtopkbchjlifflaaFlH
import Derived.Shelf.SlMaps.Clone
import Derived.WalkSmall
namespace Go.Proofs.Ytopkbchjlifflaa
open Go.RowKit Go.Maps

theorem Try.elemEntry : (Try.prog.info? 85).map (fun i => (i.zero, i.size, i.bytes)) = some (some (.agg #[.bool false, .string ⟨#[]⟩, .int .u16 0, .int .u16 0, .slice none 0 0]), 5, 56) := by kernel_rfl
def e0 : Ent := ⟨false, q0, .slice none 0 0⟩
theorem run_make_ents (w : World) (n : Nat) (hn : n ≤ 32) :
    (Instr.makeSlice 65 (.int .i64 (n : Int)) (.int .i64 (n : Int))).run Try.prog w = .ok (.slice (some ⟨w.heap.size, 0, none⟩) n n) (w.alloc (.cells (eRow (List.replicate n e0) []) 85)) := by
  obtain ⟨i0, hi, hz0, hz1, hz2⟩ := info_parts Try.elemEntry
  have hr := run_make (P := Try.prog) w 65 85 i0 _ Try.underlying65 hi hz0 .i64 .i64 n n (by omega) (by omega) (by rw [hz2]; omega) (by omega)
  rw [hr, hz1]
  have e1 : madeCells (Value.agg #[.bool false, .string ⟨#[]⟩, .int .u16 0, .int .u16 0, .slice none 0 0]).cells ((n : Int).toNat * 5) = eRow (List.replicate n e0) [] := by
    have hlen : ((List.replicate n e0).flatMap eV).length = n * 5 := by rw [R.flat_len eV 5 eV_len]; simp
    apply Array.ext
    · simp only [madeCells, eRow, List.append_nil, List.size_toArray, hlen]
      simp
    · intro i h1 h2
      have hi5 : i < n * 5 := by simpa [madeCells] using h1
      have hq : i / 5 < n := by omega
      have hm : i % 5 < 5 := Nat.mod_lt _ (by omega)
      have e2 : i = i / 5 * 5 + i % 5 := by omega
      have e3 : (eRow (List.replicate n e0) [])[i]? = (eV e0)[i % 5]? := by
        unfold eRow
        rw [List.append_nil, List.getElem?_toArray]
        have key := R.flat_get eV 5 eV_len (List.replicate n e0) (i / 5) (by simpa using hq) (i % 5) hm
        rw [List.getElem_replicate, ← e2] at key
        exact key
      have e4 : (madeCells (Value.agg #[.bool false, .string ⟨#[]⟩, .int .u16 0, .int .u16 0, .slice none 0 0]).cells ((n : Int).toNat * 5))[i]? = (eV e0)[i % 5]? := by
        rcases (by omega : i % 5 = 0 ∨ i % 5 = 1 ∨ i % 5 = 2 ∨ i % 5 = 3 ∨ i % 5 = 4) with e | e | e | e | e <;> simp [madeCells, Value.cells, e, hi5, eV, e0, q0, bytesV]
      have e5 := e4.trans e3.symm
      rw [Array.getElem?_eq_getElem h1, Array.getElem?_eq_getElem h2] at e5
      exact Option.some.inj e5
  rw [e1]
  simp
theorem ft_new {w : World} {tb sb mb n m : Nat} (h1 : w.heap[tb]? = some (.cells #[.int .i64 (m : Nat), .slice (some ⟨sb, 0, none⟩) n n, .slice none 0 0, .map (some mb)] 68 (0, 0)))
    (h2 : w.heap[sb]? = some (.cells (eRow (List.replicate n e0) []) 85 (0, 0))) (h3 : MapQ w mb []) (hn1 : 1 ≤ n) (hn : n ≤ 32) (hm1 : 1 ≤ m) (hm : m ≤ 16) : FT [tb, sb, mb] w tb n m [] := by
  have get : ∀ s (hs : s < (List.replicate n e0).length), (List.replicate n e0)[s] = e0 := fun s hs => List.getElem_replicate ..
  have own0 : ∀ s (hs : s < (List.replicate n e0).length) g, (List.replicate n e0)[s].v.ownBlock = some g → False := by
    intro s hs g hg
    rw [get s hs] at hg
    simp [e0, Value.ownBlock] at hg
  refine ⟨sb, mb, .slice none 0 0, List.replicate n e0, n, [], h1, h2, by simp, ?_, ?_, R.OwnR.nil _ _ _ _ _, h3, okF_nil n m, hn1, hn, hm1, hm, by simp, by simp, by simp, fun g hg => by simp [Value.ownBlock] at hg, fun s hs g hg => (own0 s hs g hg).elim, ?_⟩
  · intro s hs
    rw [get s hs]
    exact ⟨rfl, rfl, R.OwnR.nil _ _ _ _ _⟩
  · exact fun s hs t ht _ g hg => (own0 s hs g hg).elim
  · intro y hy
    rcases (by simpa using hy : y = tb ∨ y = sb ∨ y = mb) with e | e | e
    · rw [e]; exact lt_of_block h1
    · rw [e]; exact lt_of_block h2
    · rw [e]; exact h3.lt
/-- Numbers of slots, and of those who wait, that may be. -/
def okNew (a b : Int) : Bool := decide (1 ≤ a) && decide (a ≤ 32) && decide (1 ≤ b) && decide (b ≤ 16)
theorem new_out (a b : Int) (w : World) (h : okNew a b = false) :
    Calls Try.prog 25 #[.int .i64 a, .int .i64 b] w fun e w' => e = .returned (.tuple #[.pointer none, .int .i64 1]) ∧ w = w' := by
  have h' : a < 1 ∨ 32 < a ∨ b < 1 ∨ 16 < b := by
    unfold okNew at h
    simp at h
    omega
  clear h
  by_cases h1 : a < 1
  case' neg =>
    by_cases h2 : 32 < a
    case' neg =>
      by_cases h3 : b < 1
      case' neg => have h4 : 16 < b := by omega
  all_goals
    clear h'
    go_enter Try.func25, Try.ntmps25
    go_wp2
    go_ret2
    exact ⟨rfl, rfl⟩
theorem new_in (n m : Nat) (w : World) (hn1 : 1 ≤ n) (hn : n ≤ 32) (hm1 : 1 ≤ m) (hm : m ≤ 16) :
    Calls Try.prog 25 #[.int .i64 (n : Nat), .int .i64 (m : Nat)] w fun e w' => ∃ tb F, e = .returned (.tuple #[.pointer (some ⟨tb, 0, none⟩), .int .i64 0]) ∧ FT F w' tb n m [] ∧ (∀ y ∈ F, w.heap.size ≤ y) ∧ Chg [] w w' := by
  have hmk := fun w => run_make_ents w n hn
  have hmm := @run_makeMap Try.prog
  go_enter Try.func25, Try.ntmps25
  go_wp2
  have hm1' : MapQ (((w.alloc (.cells (eRow (List.replicate n e0) []) 85)).alloc (.map #[] 0)).alloc (.cells #[.int .i64 (m : Nat), .slice (some ⟨w.heap.size, 0, none⟩) n n, .slice none 0 0, .map (some (w.heap.size + 1))] 68)) (w.heap.size + 1) [] := by
    have h0 := mapQ_new (w.alloc (.cells (eRow (List.replicate n e0) []) 85))
    have e : (w.alloc (.cells (eRow (List.replicate n e0) []) 85)).heap.size = w.heap.size + 1 := by simp
    rw [e] at h0
    exact h0.chg ((Chg.refl [] _).alloc _) (by simp)
  have hF := ft_new (n := n) (m := m) (tb := w.heap.size + 1 + 1) (sb := w.heap.size) (mb := w.heap.size + 1) (w := ((w.alloc (.cells (eRow (List.replicate n e0) []) 85)).alloc (.map #[] 0)).alloc (.cells #[.int .i64 (m : Nat), .slice (some ⟨w.heap.size, 0, none⟩) n n, .slice none 0 0, .map (some (w.heap.size + 1))] 68))
    (heap_new' _ _ _ (by simp)) (heap_old (heap_old (heap_new _ _))) hm1' hn1 hn hm1 hm
  go_ret2
  refine ⟨_, _, rfl, hF, ?_, (((Chg.refl _ _).alloc _).alloc _).alloc _⟩
  intro y hy
  rcases (by simpa using hy : y = w.heap.size + 1 + 1 ∨ y = w.heap.size ∨ y = w.heap.size + 1) with e | e | e <;> omega

theorem e_one (l : List Ent) (h : ∀ e ∈ l, ∃ a n c, e.v = .slice a n c) : ∀ u ∈ l.flatMap eV, u.oneCell' = true := by
  intro u hu
  obtain ⟨x, hx0, hx⟩ := List.mem_flatMap.1 hu
  obtain ⟨a, n, c, e⟩ := h x hx0
  simp [eV, e] at hx
  rcases hx with rfl | rfl | rfl | rfl | rfl <;> rfl
theorem elem_e : (Try.prog.info? 85).map (fun i => (i.zero.map fun z => z.cells.size, i.size, i.bytes)) = some (some 5, 5, 56) := by kernel_rfl
set_option maxHeartbeats 2000000 in
theorem clone_e (sb n c : Nat) (l : List Ent) (w : World) (hn : n = l.length) (hl : l.length ≤ 100000) (hl1 : ∀ e ∈ l, ∃ a n c, e.v = .slice a n c) (hc : ∀ j u, (l.flatMap eV)[j]? = some u → w.cell? ((⟨sb, 0, none⟩ : Addr).add j) = some u) :
    Calls Try.prog 41 #[.slice (some ⟨sb, 0, none⟩) n c] w fun e w' => ∃ v', e = .returned v' ∧ R.OwnR 85 5 eV w.heap.size w' v' l ∧ Chg [] w w' := by
  have q22 := fun (w : World) (a : Option Addr) (n c n' c' : Nat) => Lib.run_eql_slice_nil (P := Try.prog) w 65 _ a n c n' c' Try.underlying65
  obtain ⟨i0, z, hi0, hz0, hz1, hz2, hz3⟩ := info_sizes elem_e
  have hone := e_one l hl1
  have hfl : (l.flatMap eV).length = l.length * 5 := R.flat_len eV 5 eV_len l
  have HC := Lib.hid hc
  have HFL := Lib.hid hfl
  have HONE := Lib.hid hone
  subst hn
  clear hc hone hfl hl1
  obtain ⟨xs, hxs⟩ : ∃ xs, xs = l.flatMap eV := ⟨_, rfl⟩
  rw [← hxs] at HC HFL HONE
  have HXS := Lib.hid hxs
  clear hxs
  go_enter Try.func41, Try.ntmps41
  go_wp2_with (at_builtin; refine wpList_append_own _ rfl _ _ 65 rfl w.heap.size 85 i0 z 5 56 Try.underlying65 hi0 hz0 hz1 hz2 hz3 (by omega) _ _ _ rfl (World.ownsRow_made w #[] 0 (Nat.le_refl _) (Nat.zero_le _) (by simp)) ⟨sb, 0, none⟩ l.length c xs rfl ?qc1 ?qc2 ?qc3 ?qc4 ?qc5 ?qc6 ?_)
  case qc1 => exact HFL.out
  case qc2 => exact fun j u hj => ((Chg.refl [] w).alloc _).cell (HC.out j u hj) (by simp)
  case qc3 => exact HONE.out
  case qc4 => unfold maxLen; omega
  case qc5 => omega
  case qc6 => simp
  intro v' w1 hown hgrow _
  go_wp2
  go_ret
  refine ⟨v', rfl, ?_, ?_⟩
  · unfold R.OwnR
    rw [← HXS.out]
    simpa using hown
  · exact ((Chg.refl [] w).alloc _).grown hgrow (fun k hk => by simp [Value.ownBlock] at hk; right; omega)
set_option maxRecDepth 100000 in
theorem clone_map (m : Nat) (es : Array MapEntry) (clock : Nat) (w : World) (hb : w.heap[m]? = some (.map es clock)) :
    Calls Try.prog 42 #[.map (some m)] w fun e w' => e = .returned (.map (some w.heap.size)) ∧ w' = w.alloc (.map es clock) := by
  have hq := fun w => run_eql_map_nil_sl (P := Try.prog) w 66 _ _ (some m) Try.underlying66
  go_enter Try.func42, Try.ntmps42
  go_wp2
  rw [run_callFunc_extern Try.func51 (by kernel_rfl) (by kernel_rfl) (by kernel_rfl) (e := Extern.MapsClone.clone) (by kernel_rfl), run_maps_clone_sl w 66 hb]
  simp only [Result.andThen]
  rw [Oper.upon_value]
  go_wp2
  rw [run_typeAssert_map_sl _ 66 20 _ _ _ Try.underlying66]
  simp only [Result.andThen]
  rw [Oper.upon_value]
  go_wp2
  go_ret
  exact ⟨rfl, rfl⟩
theorem cloneQ_any (m : Nat) (L : List Fl) (w : World) (h : MapQ w m L) :
    Calls Try.prog 42 #[.map (some m)] w fun e w' => ∃ m', e = .returned (.map (some m')) ∧ w.heap.size ≤ m' ∧ MapQ w' m' L ∧ Chg [] w w' := by
  obtain ⟨D, ⟨es, clock, hb, hr⟩, hD⟩ := h
  refine (clone_map m es clock w hb).mono ?_
  rintro e w' ⟨rfl, rfl⟩
  exact ⟨w.heap.size, rfl, Nat.le_refl _, ⟨D, ⟨es, clock, heap_new _ _, hr⟩, hD⟩, (Chg.refl _ _).alloc _⟩

end Go.Proofs.Ytopkbchjlifflaa
