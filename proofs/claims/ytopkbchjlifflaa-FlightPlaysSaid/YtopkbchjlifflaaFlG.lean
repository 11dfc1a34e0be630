/- Rows that lose their elements: clear, slices.Index, slices.Delete; one slot ends. -/
import Derived.Test.YtopkbchjlifflaaFlF
import Derived.Shelf.SlicesE.Delete
namespace Go.Proofs
open Go.Shelf
def Try.renD : Ren := ⟨fun | 45 => 39 | x => x, fun | 0 => 0 | 3 => 3 | 4 => 4 | 22 => 48 | 23 => 3 | x => x, fun x => x⟩
theorem Try.laysD : SlLaysE.n45 Try.prog Try.renD := {
  mixed := by kernel_rfl,
  f45 := ⟨Try.f39.name, by decide, by kernel_rfl⟩,
  t0 := by kernel_rfl, a0 := fun w => by kernel_rfl, z0 := fun w => by kernel_rfl, v0 := fun w => by kernel_rfl,
  t3 := by kernel_rfl, a3 := fun w => by kernel_rfl, z3 := fun w => by kernel_rfl, v3 := fun w => by kernel_rfl,
  t4 := by kernel_rfl, a4 := fun w => by kernel_rfl, z4 := fun w => by kernel_rfl, v4 := fun w => by kernel_rfl,
  t22 := by kernel_rfl, a22 := fun w => by kernel_rfl, z22 := fun w => by kernel_rfl, v22 := fun w => by kernel_rfl,
  a23 := fun w => by kernel_rfl, z23 := fun w => by kernel_rfl }
end Go.Proofs
namespace Go.Proofs.Ytopkbchjlifflaa
open Go.RowKit Go.Maps

def blkL (v : Value) : List Nat := match v.ownBlock with | some g => [g] | none => []
theorem mem_blkL {v : Value} {k : Nat} : k ∈ blkL v ↔ v.ownBlock = some k := by
  unfold blkL
  split
  · rename_i g hg; rw [hg]; simp; exact eq_comm
  · rename_i hg; rw [hg]; simp
theorem setCells_block (b : Nat) (t : TypeId) : ∀ (vs : List Value) (o : Nat) (w : World) (c : Array Value), w.heap[b]? = some (.cells c t (0, 0)) → ∃ c', (w.setCells b o vs).heap[b]? = some (.cells c' t (0, 0)) ∧ c'.size = c.size
  | [], _, _, c, h => ⟨c, h, rfl⟩
  | v :: r, o, w, c, h => by
    obtain ⟨c', h1, h2⟩ := setCells_block b t r (o + 1) (w.setCell ⟨b, o, none⟩ v) _ (heap_set h v)
    exact ⟨c', h1, by rw [h2]; simp⟩
theorem setCells_chg (b : Nat) : ∀ (vs : List Value) (o : Nat) (w : World), Chg [b] w (w.setCells b o vs)
  | [], _, w => Chg.refl _ w
  | v :: r, o, w => (Chg.set1 w b o v).trans (setCells_chg b r (o + 1) (w.setCell ⟨b, o, none⟩ v))
theorem zeroW (w : World) : (zeroValue 38).run Try.prog w = .ok (.agg #[.int .i64 0, .string ⟨#[]⟩]) w := by kernel_rfl
/-- clear of a row of waiters: what is left of it is a row of none. -/
theorem clear_ws {w : World} {ra : Option Addr} {ln rc : Nat} {l : List Wt} (h : R.OwnR 38 2 wV 0 w (.slice ra ln rc) l) (hl : ln = l.length) (ty : TypeId) :
    ∃ w', (Builtin.clear_ #[42] ty #[.slice ra ln rc]).run Try.prog w = .ok (.tuple #[]) w' ∧ R.OwnR 38 2 wV 0 w' (.slice ra 0 rc) [] ∧ Chg (blkL (.slice ra ln rc)) w w' := by
  obtain ⟨h1, h2⟩ := h
  rcases h2 with ⟨e1, e2⟩ | ⟨g, cap, cur, e1, hb, hg, hn, hm, hs, ht⟩
  · injection e1 with e1 e3 e4
    subst e1; subst e4
    have : ln = 0 := by omega
    subst this
    refine ⟨w, ?_, R.OwnR.nil _ _ _ _ _, Chg.refl _ _⟩
    simp [Builtin.clear_, run_underlying Try.underlying42]
  · injection e1 with e1 e3 e4
    subst e1; subst e4
    by_cases h0 : ln = 0
    · subst h0
      refine ⟨w, ?_, ⟨by simp, .inr ⟨g, rc, cur, rfl, Nat.zero_le _, hg, Nat.zero_le _, hm, hs, by simp⟩⟩, Chg.refl _ _⟩
      simp [Builtin.clear_, run_underlying Try.underlying42]
    · obtain ⟨k, rfl⟩ : ∃ k, ln = k + 1 := ⟨ln - 1, by omega⟩
      have hsz : (k + 1) * 2 ≤ cur.size := by rw [hs]; exact Nat.mul_le_mul_right _ (by omega)
      have hz : (Builtin.zeroCells (Value.agg #[.int .i64 0, .string ⟨#[]⟩]).cells (k + 1)).toList.length = (k + 1) * 2 := by simp [Builtin.zeroCells, Value.cells]
      have hst := run_storeCells_cells (P := Try.prog) g 0 (Builtin.zeroCells (Value.agg #[.int .i64 0, .string ⟨#[]⟩]).cells (k + 1)).toList 0 w
        (fun j hj => by rw [hz] at hj; rw [cell_of hg, Array.getElem?_eq_getElem (by omega)]; rfl)
        (fun j hj => free_of hg)
        (fun v hv => by
          simp [Builtin.zeroCells, Value.cells] at hv
          obtain ⟨i, _, rfl⟩ := hv
          have : i % 2 < 2 := Nat.mod_lt _ (by omega)
          rcases (by omega : i % 2 = 0 ∨ i % 2 = 1) with e | e <;> simp [e] <;> rfl)
      obtain ⟨c', k1, k2⟩ := setCells_block g 38 (Builtin.zeroCells (Value.agg #[.int .i64 0, .string ⟨#[]⟩]).cells (k + 1)).toList (0 + 0) w cur hg
      refine ⟨_, ?_, ⟨by simp, .inr ⟨g, rc, c', rfl, Nat.zero_le _, k1, Nat.zero_le _, hm, by rw [k2]; exact hs, by simp⟩⟩, ?_⟩
      · simp [Builtin.clear_, run_underlying Try.underlying42, zeroW, hst]
      · exact setCells_chg g _ _ w
def sawS (l : List Nat) (s k : Nat) (v : Value) : Prop := ∃ j : Nat, j ≤ k ∧ v = .int .i64 (j : Nat)
theorem index_any (base : Nat) (v : Value) (l : List Nat) (s k : Nat) (w : World) (h : R.OwnR 3 1 sV base w v l) (hl : l.length ≤ 1000) (hk : k < l.length) (hs : l[k] = s) (hne : ∀ j (hj : j < k), l[j] ≠ s) :
    Calls Try.prog 38 #[v, .int .i64 (s : Nat)] w fun e w' => e = .returned (.int .i64 (k : Nat)) ∧ w = w' := by
  obtain ⟨g, c, rfl, _, _, hx⟩ := h.cells sV_len (by omega)
  obtain ⟨ln, hln⟩ : ∃ ln, ln = l.length := ⟨_, rfl⟩
  have hx' : ∀ i (hi : i < l.length), w.cell? ⟨g, i, none⟩ = some (.int .i64 (l[i] : Nat)) := by
    intro i hi
    have := hx i hi 0 (.int .i64 (l[i] : Nat)) rfl
    rw [Nat.mul_one, Nat.add_zero] at this
    exact this
  rw [← hln] at hl hk ⊢
  have HX := Lib.hid hx'
  have HLN := Lib.hid hln
  have HNE := Lib.hid hne
  have HS := Lib.hid hs
  clear hx hx' hln hne h hs
  go_enter Try.func38, Try.ntmps38
  go_wp2
  go_loop [5, 8] (fun _ i => sawS l s k i) (fun _ i => ln - (intOf i).toNat)
  case atStart => exact ⟨0, Nat.zero_le _, rfl⟩
  case round =>
    obtain ⟨j, hj, rfl⟩ := hrel
    have hjl : j < l.length := by have := HLN.out; omega
    have d0 := HX.out j hjl
    obtain ⟨y, hy⟩ : ∃ y, y = l[j] := ⟨_, rfl⟩
    rw [← hy] at d0
    have t1 : decide (j < ln) = true := by simp; omega
    have t1I : decide ((j : Int) < (ln : Int)) = true := by simp; omega
    by_cases e : j = k
    · subst e
      have : y = s := by rw [hy]; exact HS.out
      subst this
      clear hy
      go_wp2
      go_ret
      exact ⟨rfl, rfl⟩
    · have hne : y ≠ s := by rw [hy]; exact HNE.out j (by omega)
      have t2 : ((y : Int) == (s : Int)) = false := by simp; omega
      have t2' : (y == s) = false := by simpa using hne
      have t3 : ((s : Int) == (y : Int)) = false := by simp; omega
      have t3' : (s == y) = false := by simpa using Ne.symm hne
      clear hne hy
      go_wp2
      go_round
      case rel => exact ⟨j + 1, by omega, by go_num⟩
      case measure => simp [intOf] <;> omega

def encN (x : Nat) : Value := .int .i64 (x : Nat)
theorem flat_sV (l : List Nat) : l.flatMap sV = l.map encN := by
  induction l with
  | nil => rfl
  | cons x l ih => rw [List.flatMap_cons, ih]; rfl
theorem putRow_heap {α : Type} [Inhabited α] (enc : α → Value) (w : World) (g : Nat) (d : Array α) {c : Array Value} {t : TypeId} (h : w.heap[g]? = some (.cells c t (0, 0))) : (Sort.putRow enc w g 0 d).heap[g]? = some (.cells (Sort.putCells enc 0 d c) t (0, 0)) := by
  unfold Sort.putRow Sort.mapBlock
  show (w.heap.modify g _)[g]? = _
  rw [Array.getElem?_modify, if_pos rfl, h]
  rfl
theorem putRow_chg {α : Type} [Inhabited α] (enc : α → Value) (w : World) (g q : Nat) (d : Array α) (S : List Nat) (hS : g ∈ S) : Chg S w (Sort.putRow enc (Sort.ahead w q) g 0 d) := by
  refine ⟨rfl, rfl, rfl, by rw [Sort.size_putRow]; exact Nat.le_refl _, ?_⟩
  intro j hj hjs
  have hne : g ≠ j := fun e => hjs (by rw [← e]; exact hS)
  unfold Sort.putRow Sort.mapBlock
  show (w.heap.modify g _)[j]? = _
  rw [Array.getElem?_modify, if_neg hne]
theorem putCells_at {α : Type} [Inhabited α] (enc : α → Value) (d : Array α) (c : Array Value) {i : Nat} (hi : i < d.size) {x : Value} (hc : c[i]? = some x) : (Sort.putCells enc 0 d c)[i]? = some (enc d[i]!) := by
  unfold Sort.putCells
  rw [Array.getElem?_mapIdx, hc, Option.map_some, if_pos ⟨Nat.zero_le _, by omega⟩, Nat.sub_zero]
theorem delete_any (base : Nat) (v : Value) (l : List Nat) (k : Nat) (w : World) (h : R.OwnR 3 1 sV base w v l) (hk : k < l.length) :
    Calls Try.prog 39 #[v, .int .i64 (k : Nat), .int .i64 ((k + 1 : Nat) : Int)] w fun e w' => ∃ v', e = .returned v' ∧ v'.ownBlock = v.ownBlock ∧ R.OwnR 3 1 sV base w' v' (l.take k ++ l.drop (k + 1)) ∧ Chg (blkL v) w w' := by
  obtain ⟨h1, h2⟩ := h
  rcases h2 with ⟨e1, e2⟩ | ⟨g, cap, cur, rfl, hb, hg, hn, hm, hs, ht⟩
  · omega
  · have hcell : ∀ j, j < l.length → cur[j]? = some (encN (l.getD j 0)) := by
      intro j hj
      have e : cur.toList[j]? = (cur.toList.take (l.length * 1))[j]? := by rw [List.getElem?_take_of_lt (by omega)]
      rw [← Array.getElem?_toList, e, ht, flat_sV, List.getElem?_map, List.getElem?_eq_getElem hj, List.getD_eq_getElem?_getD, List.getElem?_eq_getElem hj]
      rfl
    have hH : Sort.Holds encN w g 0 l.toArray := by
      intro j hj
      have hj' : j < l.length := by simpa using hj
      refine ⟨?_, free_of hg⟩
      rw [cell_of hg, Nat.zero_add, hcell j hj']
      congr 2
      rw [getElem!_pos _ j hj]
      simp [List.getD_eq_getElem?_getD, hj']
    have hm' : cap ≤ 9223372036854775807 := by unfold maxLen at hm; omega
    have hz : ∀ w, (zeroValue (Try.renD.t 23)).run Try.prog w = .ok (encN 0) w := fun w => by kernel_rfl
    obtain ⟨i0, hi0, hz0, hz1, hz2⟩ := info_parts (show (Try.prog.info? 3).map (fun i => (i.zero, i.size, i.bytes)) = some (some (.int .i64 0), 1, 8) by kernel_rfl)
    have key := AnyE.slices_Delete Try.laysD encN (fun _ => rfl) 0 hz i0 hi0 hz1 g 0 cap k (k + 1) l.toArray w hH (by simpa using hn) hm' (by omega) (by simp; omega)
    have hsz : l.toArray.size = l.length := by simp
    rw [hsz] at key
    refine Calls.mono key ?_
    rintro e w' ⟨rfl, q, rfl⟩
    obtain ⟨d, hd⟩ : ∃ d, d = (l.toArray.toList.take k ++ l.toArray.toList.drop (k + 1) ++ List.replicate (k + 1 - k) 0).toArray := ⟨_, rfl⟩
    rw [← hd]
    obtain ⟨l', hl⟩ : ∃ l', l' = l.take k ++ l.drop (k + 1) := ⟨_, rfl⟩
    have hl' : l'.length = l.length - 1 := by rw [hl]; simp; omega
    have hdl : d.size = l.length := by rw [hd]; simp; omega
    have hdi : ∀ i (hi : i < l'.length), d[i]! = l'[i] := by
      intro i hi
      rw [getElem!_pos d i (by omega)]
      have e1 : d = (l' ++ List.replicate (k + 1 - k) 0).toArray := by rw [hd, hl]
      subst e1
      rw [List.getElem_toArray, List.getElem_append_left hi]
    rw [← hl]
    have hsz2 : l.length - (k + 1 - k) = l'.length := by rw [hl']; omega
    have hheap := putRow_heap encN (Sort.ahead w q) g d (c := cur) hg
    refine ⟨_, rfl, rfl, ?_, putRow_chg encN w g q d _ (mem_blkL.2 rfl)⟩
    rw [hsz2]
    refine ⟨R.flat_len sV 1 sV_len _, .inr ⟨g, cap, _, rfl, hb, hheap, by rw [hl']; omega, hm, by unfold Sort.putCells; rw [Array.size_mapIdx]; exact hs, ?_⟩⟩
    rw [flat_sV]
    apply List.ext_getElem?
    intro i
    by_cases hi : i < l'.length
    · have hi2 : i < l.length := by omega
      rw [List.getElem?_take_of_lt (by omega), Array.getElem?_toList, putCells_at encN d cur (by omega) (hcell i hi2), List.getElem?_map, List.getElem?_eq_getElem hi, Option.map_some, hdi i hi]
    · rw [List.getElem?_eq_none (by rw [List.length_take]; omega), List.getElem?_eq_none (by rw [List.length_map]; omega)]

end Go.Proofs.Ytopkbchjlifflaa
