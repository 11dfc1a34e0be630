/- The walk of New. -/
import Derived.Test.YtgdnfempcjlipaaCacO
import Derived.WalkSmall
namespace Go.Proofs.Ytgdnfempcjlipaa
open Go.RowKit Go.Maps

theorem Try.elemEntry : (Try.prog.info? 78).map (fun i => (i.zero, i.size, i.bytes)) = some (some (.agg #[.string ⟨#[]⟩, .int .u16 0, .int .u16 0, .int .u8 0, .slice none 0 0, .slice none 0 0, .int .i64 0]), 7, 88) := by kernel_rfl
theorem run_make_ents (w : World) (n : Nat) (hn : n ≤ 256) :
    (Instr.makeSlice 65 (.int .i64 (n : Int)) (.int .i64 (n : Int))).run Try.prog w = .ok (.slice (some ⟨w.heap.size, 0, none⟩) n n) (w.alloc (.cells (eRow (List.replicate n e0) []) 78)) := by
  obtain ⟨i0, hi, hz0, hz1, hz2⟩ := info_parts Try.elemEntry
  have hr := run_make (P := Try.prog) w 65 78 i0 _ Try.underlying65 hi hz0 .i64 .i64 n n (by omega) (by omega) (by rw [hz2]; omega) (by omega)
  rw [hr, hz1]
  have e1 : madeCells (Value.agg #[.string ⟨#[]⟩, .int .u16 0, .int .u16 0, .int .u8 0, .slice none 0 0, .slice none 0 0, .int .i64 0]).cells ((n : Int).toNat * 7) = eRow (List.replicate n e0) [] := by
    have hlen : ((List.replicate n e0).flatMap eV).length = n * 7 := by rw [R.flat_len eV 7 eV_len]; simp
    apply Array.ext
    · simp only [madeCells, eRow, List.append_nil, List.size_toArray, hlen]
      simp
    · intro i h1 h2
      have hi5 : i < n * 7 := by simpa [madeCells] using h1
      have hq : i / 7 < n := by omega
      have hm : i % 7 < 7 := Nat.mod_lt _ (by omega)
      have e2 : i = i / 7 * 7 + i % 7 := by omega
      have e3 : (eRow (List.replicate n e0) [])[i]? = (eV e0)[i % 7]? := by
        unfold eRow
        rw [List.append_nil, List.getElem?_toArray]
        have key := R.flat_get eV 7 eV_len (List.replicate n e0) (i / 7) (by simpa using hq) (i % 7) hm
        rw [List.getElem_replicate, ← e2] at key
        exact key
      have e4 : (madeCells (Value.agg #[.string ⟨#[]⟩, .int .u16 0, .int .u16 0, .int .u8 0, .slice none 0 0, .slice none 0 0, .int .i64 0]).cells ((n : Int).toNat * 7))[i]? = (eV e0)[i % 7]? := by
        rcases (by omega : i % 7 = 0 ∨ i % 7 = 1 ∨ i % 7 = 2 ∨ i % 7 = 3 ∨ i % 7 = 4 ∨ i % 7 = 5 ∨ i % 7 = 6) with e | e | e | e | e | e | e <;> simp [madeCells, Value.cells, e, hi5, eV, e0]
      have e5 := e4.trans e3.symm
      rw [Array.getElem?_eq_getElem h1, Array.getElem?_eq_getElem h2] at e5
      exact Option.some.inj e5
  rw [e1]
  simp
theorem tim_at {w : World} {tb : Nat} (h : w.heap[tb]? = some (.cells #[.map none, .slice none 0 0, .int .u64 0] 113 (0, 0))) : Ti.TimersAt w tb [] [] 0 :=
  ⟨.map none, none, 0, 0, [], ⟨h, ⟨rfl, Nat.le_refl _, .inl ⟨rfl, rfl, rfl⟩⟩, fun i _ h => by omega, List.Perm.refl _, .inl ⟨rfl, rfl⟩, by simp, by simp, Ti.ok_nil⟩⟩
theorem ca_new {w w0 : World} {cb eb mb lb tb n k0 k1 : Nat} (h1 : w.heap[cb]? = some (.cells #[.int .i64 (n : Nat), .int .u64 (k0 : Nat), .int .u64 (k1 : Nat), .int .i64 0, .slice (some ⟨eb, 0, none⟩) n n, .map (some mb), .pointer (some ⟨lb, 0, none⟩), .pointer (some ⟨tb, 0, none⟩)] 70 (0, 0)))
    (h2 : w.heap[eb]? = some (.cells (eRow (List.replicate n e0) []) 78 (0, 0))) (h3 : w.heap[mb]? = some (.map #[] 0)) (h4 : Lr.LruAt w lb n []) (h5 : w.heap[tb]? = some (.cells #[.map none, .slice none 0 0, .int .u64 0] 113 (0, 0)))
    (h6 : k0 < 18446744073709551616) (h7 : k1 < 18446744073709551616) (hb : w0.heap.size ≤ cb ∧ w0.heap.size ≤ eb ∧ w0.heap.size ≤ mb ∧ w0.heap.size ≤ lb ∧ w0.heap.size ≤ tb) : ∃ F, CA F w cb n k0 k1 ⟨0, []⟩ 0 ∧ ∀ y ∈ F, w0.heap.size ≤ y := by
  have get : ∀ s (hs : s < (List.replicate n e0).length), (List.replicate n e0)[s] = e0 := fun s hs => List.getElem_replicate ..
  have hm : MapH w mb 0 (fun _ => none) := ⟨.map [], ⟨#[], 0, h3, ⟨by simp, MapKept.stamped_empty 0, by simp⟩, Nat.le_refl _, rfl⟩, Nat.le_refl _, fun k => rfl, fun k b h => by cases h⟩
  have htm : Ti.TimersAt w tb [] [] 0 := tim_at h5
  have hC : CSc w cb n k0 k1 0 [] [] [] [] 0 0 eb mb lb tb n [] [] (fun _ => none) (List.replicate n e0) := by
    refine ⟨h1, h2, by simp, ?_, by simp, h4, htm, by intro y hy; simp at hy, by simp, hm, RowsH.new w, h6, h7⟩
    intro e he
    rw [List.eq_of_mem_replicate he]
    exact ⟨rfl, rfl⟩
  have hcon : Con k0 k1 (rowS []) [] [] := ⟨rfl, by simp, by simp [rowS], by simp [ensS], by simp, by simp⟩
  have hsy : Sync [] [] := by unfold Sync; simp
  have hS : CS [cb, eb, mb, lb, tb] w cb n k0 k1 0 (rowS []) [] [] [] 0 0 := ⟨eb, mb, lb, tb, n, [], [], fun _ => none, _, hC, fun y => by
    unfold Part RowBlk
    simp⟩
  refine ⟨_, ⟨[], 0, 0, ⟨[], [], hS, hcon, hsy⟩, rfl, okM_new n, Nat.le_refl _, Nat.le_refl _⟩, ?_⟩
  intro y hy
  obtain ⟨b1, b2, b3, b4, b5⟩ := hb
  simp at hy
  rcases hy with e | e | e | e | e <;> rw [e] <;> assumption
set_option maxRecDepth 100000 in
set_option maxHeartbeats 4000000 in
theorem new_any (n k0 k1 : Nat) (w : World) (hn : n ≤ 256) (h0 : k0 < 18446744073709551616) (h1 : k1 < 18446744073709551616) :
    Calls Try.prog 26 #[.int .i64 (n : Nat), .int .u64 (k0 : Nat), .int .u64 (k1 : Nat)] w fun e w' => ∃ cb F, e = .returned (.tuple #[.pointer (some ⟨cb, 0, none⟩), .int .i64 0]) ∧ CA F w' cb n k0 k1 ⟨0, []⟩ 0 ∧ (∀ y ∈ F, w.heap.size ≤ y) ∧ Chg [] w w' := by
  have hmk := fun w => run_make_ents w n hn
  have hmm := @run_makeMap Try.prog
  go_enter Try.func26, Try.ntmps26
  go_wp2_with fail
  refine (Lr.new_in n w hn).mono ?_
  rintro e9 w1 ⟨rfl, hl1, hc1⟩
  have HL1 := Lib.hid hl1
  have HC1 := Lib.hid hc1
  have hlb : w.heap.size < w1.heap.size := hl1.lt
  obtain ⟨lb, hlbe⟩ : ∃ lb, lb = w.heap.size := ⟨_, rfl⟩
  rw [← hlbe]
  have HLB := Lib.hid hlbe
  clear hl1 hc1 hlb hlbe
  go_wp2_with fail
  go_region_with ((go_at_call 46; refine (Ti.new_any _).mono ?_; rintro e9 w5 ⟨rfl, rfl⟩))
  all_goals
    go_wp2
    refine post_abs ?_
    intro w9 hw9
    have hc9 : Chg [] w1 w9 := by
      rw [hw9]
      first
        | exact (((((Chg.refl [] w1).drew).alloc _).alloc _).alloc _).alloc _
        | exact ((((Chg.refl [] w1).alloc _).alloc _).alloc _).alloc _
    have hsz := HC1.out.size
    have hlb := HLB.out
    have hfin : ∃ F, CA F w9 (w1.heap.size + 1 + 1 + 1) n k0 k1 ⟨0, []⟩ 0 ∧ ∀ y ∈ F, w.heap.size ≤ y := by
      first
      | exact ca_new (eb := w1.heap.size) (mb := w1.heap.size + 1) (tb := w1.heap.size + 1 + 1) (lb := lb) (n := n) (k0 := k0) (k1 := k1) (by rw [hw9]; first | exact heap_new' _ _ _ (by simp) | exact heap_old (heap_new' _ _ _ (by simp)) | exact heap_old (heap_old (heap_new' _ _ _ (by simp))) | exact heap_old (heap_old (heap_old (heap_new' _ _ _ (by simp))))) (by rw [hw9]; first | exact heap_new' _ _ _ (by simp) | exact heap_old (heap_new' _ _ _ (by simp)) | exact heap_old (heap_old (heap_new' _ _ _ (by simp))) | exact heap_old (heap_old (heap_old (heap_new' _ _ _ (by simp))))) (by rw [hw9]; first | exact heap_new' _ _ _ (by simp) | exact heap_old (heap_new' _ _ _ (by simp)) | exact heap_old (heap_old (heap_new' _ _ _ (by simp))) | exact heap_old (heap_old (heap_old (heap_new' _ _ _ (by simp))))) (by rw [HLB.out]; exact HL1.out.chg hc9 (by simp)) (by rw [hw9]; first | exact heap_new' _ _ _ (by simp) | exact heap_old (heap_new' _ _ _ (by simp)) | exact heap_old (heap_old (heap_new' _ _ _ (by simp))) | exact heap_old (heap_old (heap_old (heap_new' _ _ _ (by simp))))) h0 h1 ⟨by omega, by omega, by omega, by omega, by omega⟩
      | exact ca_new (eb := w1.heap.size) (mb := w1.heap.size + 1 + 1) (tb := w1.heap.size + 1) (lb := lb) (n := n) (k0 := k0) (k1 := k1) (by rw [hw9]; first | exact heap_new' _ _ _ (by simp) | exact heap_old (heap_new' _ _ _ (by simp)) | exact heap_old (heap_old (heap_new' _ _ _ (by simp))) | exact heap_old (heap_old (heap_old (heap_new' _ _ _ (by simp))))) (by rw [hw9]; first | exact heap_new' _ _ _ (by simp) | exact heap_old (heap_new' _ _ _ (by simp)) | exact heap_old (heap_old (heap_new' _ _ _ (by simp))) | exact heap_old (heap_old (heap_old (heap_new' _ _ _ (by simp))))) (by rw [hw9]; first | exact heap_new' _ _ _ (by simp) | exact heap_old (heap_new' _ _ _ (by simp)) | exact heap_old (heap_old (heap_new' _ _ _ (by simp))) | exact heap_old (heap_old (heap_old (heap_new' _ _ _ (by simp))))) (by rw [HLB.out]; exact HL1.out.chg hc9 (by simp)) (by rw [hw9]; first | exact heap_new' _ _ _ (by simp) | exact heap_old (heap_new' _ _ _ (by simp)) | exact heap_old (heap_old (heap_new' _ _ _ (by simp))) | exact heap_old (heap_old (heap_old (heap_new' _ _ _ (by simp))))) h0 h1 ⟨by omega, by omega, by omega, by omega, by omega⟩
      | exact ca_new (eb := w1.heap.size + 1) (mb := w1.heap.size) (tb := w1.heap.size + 1 + 1) (lb := lb) (n := n) (k0 := k0) (k1 := k1) (by rw [hw9]; first | exact heap_new' _ _ _ (by simp) | exact heap_old (heap_new' _ _ _ (by simp)) | exact heap_old (heap_old (heap_new' _ _ _ (by simp))) | exact heap_old (heap_old (heap_old (heap_new' _ _ _ (by simp))))) (by rw [hw9]; first | exact heap_new' _ _ _ (by simp) | exact heap_old (heap_new' _ _ _ (by simp)) | exact heap_old (heap_old (heap_new' _ _ _ (by simp))) | exact heap_old (heap_old (heap_old (heap_new' _ _ _ (by simp))))) (by rw [hw9]; first | exact heap_new' _ _ _ (by simp) | exact heap_old (heap_new' _ _ _ (by simp)) | exact heap_old (heap_old (heap_new' _ _ _ (by simp))) | exact heap_old (heap_old (heap_old (heap_new' _ _ _ (by simp))))) (by rw [HLB.out]; exact HL1.out.chg hc9 (by simp)) (by rw [hw9]; first | exact heap_new' _ _ _ (by simp) | exact heap_old (heap_new' _ _ _ (by simp)) | exact heap_old (heap_old (heap_new' _ _ _ (by simp))) | exact heap_old (heap_old (heap_old (heap_new' _ _ _ (by simp))))) h0 h1 ⟨by omega, by omega, by omega, by omega, by omega⟩
      | exact ca_new (eb := w1.heap.size + 1) (mb := w1.heap.size + 1 + 1) (tb := w1.heap.size) (lb := lb) (n := n) (k0 := k0) (k1 := k1) (by rw [hw9]; first | exact heap_new' _ _ _ (by simp) | exact heap_old (heap_new' _ _ _ (by simp)) | exact heap_old (heap_old (heap_new' _ _ _ (by simp))) | exact heap_old (heap_old (heap_old (heap_new' _ _ _ (by simp))))) (by rw [hw9]; first | exact heap_new' _ _ _ (by simp) | exact heap_old (heap_new' _ _ _ (by simp)) | exact heap_old (heap_old (heap_new' _ _ _ (by simp))) | exact heap_old (heap_old (heap_old (heap_new' _ _ _ (by simp))))) (by rw [hw9]; first | exact heap_new' _ _ _ (by simp) | exact heap_old (heap_new' _ _ _ (by simp)) | exact heap_old (heap_old (heap_new' _ _ _ (by simp))) | exact heap_old (heap_old (heap_old (heap_new' _ _ _ (by simp))))) (by rw [HLB.out]; exact HL1.out.chg hc9 (by simp)) (by rw [hw9]; first | exact heap_new' _ _ _ (by simp) | exact heap_old (heap_new' _ _ _ (by simp)) | exact heap_old (heap_old (heap_new' _ _ _ (by simp))) | exact heap_old (heap_old (heap_old (heap_new' _ _ _ (by simp))))) h0 h1 ⟨by omega, by omega, by omega, by omega, by omega⟩
      | exact ca_new (eb := w1.heap.size + 1 + 1) (mb := w1.heap.size) (tb := w1.heap.size + 1) (lb := lb) (n := n) (k0 := k0) (k1 := k1) (by rw [hw9]; first | exact heap_new' _ _ _ (by simp) | exact heap_old (heap_new' _ _ _ (by simp)) | exact heap_old (heap_old (heap_new' _ _ _ (by simp))) | exact heap_old (heap_old (heap_old (heap_new' _ _ _ (by simp))))) (by rw [hw9]; first | exact heap_new' _ _ _ (by simp) | exact heap_old (heap_new' _ _ _ (by simp)) | exact heap_old (heap_old (heap_new' _ _ _ (by simp))) | exact heap_old (heap_old (heap_old (heap_new' _ _ _ (by simp))))) (by rw [hw9]; first | exact heap_new' _ _ _ (by simp) | exact heap_old (heap_new' _ _ _ (by simp)) | exact heap_old (heap_old (heap_new' _ _ _ (by simp))) | exact heap_old (heap_old (heap_old (heap_new' _ _ _ (by simp))))) (by rw [HLB.out]; exact HL1.out.chg hc9 (by simp)) (by rw [hw9]; first | exact heap_new' _ _ _ (by simp) | exact heap_old (heap_new' _ _ _ (by simp)) | exact heap_old (heap_old (heap_new' _ _ _ (by simp))) | exact heap_old (heap_old (heap_old (heap_new' _ _ _ (by simp))))) h0 h1 ⟨by omega, by omega, by omega, by omega, by omega⟩
      | exact ca_new (eb := w1.heap.size + 1 + 1) (mb := w1.heap.size + 1) (tb := w1.heap.size) (lb := lb) (n := n) (k0 := k0) (k1 := k1) (by rw [hw9]; first | exact heap_new' _ _ _ (by simp) | exact heap_old (heap_new' _ _ _ (by simp)) | exact heap_old (heap_old (heap_new' _ _ _ (by simp))) | exact heap_old (heap_old (heap_old (heap_new' _ _ _ (by simp))))) (by rw [hw9]; first | exact heap_new' _ _ _ (by simp) | exact heap_old (heap_new' _ _ _ (by simp)) | exact heap_old (heap_old (heap_new' _ _ _ (by simp))) | exact heap_old (heap_old (heap_old (heap_new' _ _ _ (by simp))))) (by rw [hw9]; first | exact heap_new' _ _ _ (by simp) | exact heap_old (heap_new' _ _ _ (by simp)) | exact heap_old (heap_old (heap_new' _ _ _ (by simp))) | exact heap_old (heap_old (heap_old (heap_new' _ _ _ (by simp))))) (by rw [HLB.out]; exact HL1.out.chg hc9 (by simp)) (by rw [hw9]; first | exact heap_new' _ _ _ (by simp) | exact heap_old (heap_new' _ _ _ (by simp)) | exact heap_old (heap_old (heap_new' _ _ _ (by simp))) | exact heap_old (heap_old (heap_old (heap_new' _ _ _ (by simp))))) h0 h1 ⟨by omega, by omega, by omega, by omega, by omega⟩
    obtain ⟨F, hF, hlo⟩ := hfin
    clear hw9 hmk hmm
    go_ret2
    exact ⟨_, F, rfl, hF, hlo, HC1.out.trans hc9⟩

end Go.Proofs.Ytgdnfempcjlipaa
