/- slices.DeleteFunc at a row of slots: the one slot goes. -/
import Derived.Test.YtgdnfempcjlipaaCacE
import Derived.Shelf.SlicesE.DeleteFunc
namespace Go.Proofs
open Go.Shelf
def Try.renH : Ren := ⟨fun | 6 => 80 | 10 => 65 | x => x, fun | 0 => 0 | 3 => 3 | 4 => 4 | 22 => 75 | 23 => 3 | 25 => 98 | x => x, fun x => x⟩
theorem Try.laysH : SlLaysH.n10 Try.prog Try.renH := {
  mixed := by kernel_rfl,
  f6 := ⟨Try.f80.name, by decide, by kernel_rfl⟩,
  f10 := ⟨Try.f65.name, by decide, by kernel_rfl⟩,
  t0 := by kernel_rfl, a0 := fun w => by kernel_rfl, z0 := fun w => by kernel_rfl, v0 := fun w => by kernel_rfl,
  t3 := by kernel_rfl, a3 := fun w => by kernel_rfl, z3 := fun w => by kernel_rfl, v3 := fun w => by kernel_rfl,
  t4 := by kernel_rfl, a4 := fun w => by kernel_rfl, z4 := fun w => by kernel_rfl, v4 := fun w => by kernel_rfl,
  t22 := by kernel_rfl, a22 := fun w => by kernel_rfl, z22 := fun w => by kernel_rfl, v22 := fun w => by kernel_rfl,
  a23 := fun w => by kernel_rfl, z23 := fun w => by kernel_rfl,
  t25 := by kernel_rfl, a25 := fun w => by kernel_rfl, z25 := fun w => by kernel_rfl, v25 := fun w => by kernel_rfl }
end Go.Proofs
namespace Go.Proofs.Ytgdnfempcjlipaa
open Go.RowKit Go.Maps

def encN (x : Nat) : Value := .int .i64 (x : Int)
theorem is_gives (s x : Nat) (B : Nat) (W : World) (hc : W.cell? ⟨B, 0, none⟩ = some (.int .i64 (s : Nat))) :
    FnGives Try.prog 66 #[.pointer (some ⟨B, 0, none⟩)] #[encN x] (.bool (decide (x = s))) W := by
  show Calls Try.prog 66 #[.int .i64 (x : Nat), .pointer (some ⟨B, 0, none⟩)] W _
  obtain ⟨b, hb⟩ : ∃ b, b = decide (x = s) := ⟨_, rfl⟩
  have t1 : (((x : Nat) : Int) == ((s : Nat) : Int)) = b := by rw [hb, Bool.eq_iff_iff, beq_iff_eq, decide_eq_true_eq]; omega
  rw [← hb]
  clear hb
  go_enter Try.func66, Try.ntmps66
  go_wp2
  go_ret
  exact ⟨rfl, 0, rfl⟩
theorem take_put (l fl : List Nat) (cap : Nat) (cur : Array Value) (zs : List Nat) (hl : fl.length + zs.length = l.length) (hc : l.length ≤ cur.size) : (Sort.putCells encN 0 (fl ++ zs).toArray cur).toList.take (fl.length * 1) = fl.flatMap intV := by
  have hfl : (fl.flatMap intV).length = fl.length * 1 := R.flat_len intV 1 intV_len fl
  apply List.ext_getElem?
  intro i
  by_cases hi : i < fl.length
  · rw [List.getElem?_take_of_lt (by omega)]
    have e1 := R.flat_get intV 1 intV_len fl i hi 0 (by omega)
    rw [Nat.mul_one, Nat.add_zero] at e1
    rw [e1]
    unfold Sort.putCells
    rw [Array.getElem?_toList, Array.getElem?_mapIdx, Array.getElem?_eq_getElem (by omega)]
    have hlt : i < 0 + (fl ++ zs).toArray.size := by simp; omega
    simp only [Option.map_some, Nat.zero_le, true_and, hlt, if_true, Nat.sub_zero]
    have : (fl ++ zs).toArray[i]! = fl[i] := by
      rw [getElem!_pos _ i (by simp; omega)]
      simp [hi]
    rw [this]
    rfl
  · rw [List.getElem?_eq_none (by rw [List.length_take]; omega), List.getElem?_eq_none (by omega)]
theorem put_heap {w : World} {g : Nat} {cur : Array Value} {t : TypeId} {f : Nat × Nat} (h : w.heap[g]? = some (.cells cur t f)) (d : Array Nat) : (Sort.putRow encN w g 0 d).heap[g]? = some (.cells (Sort.putCells encN 0 d cur) t f) := by
  have hlt := lt_of_block h
  have h' : w.heap[g] = .cells cur t f := by simpa [Array.getElem?_eq_getElem hlt] using h
  show (w.heap.modify g _)[g]? = _
  rw [Array.getElem?_eq_getElem (by simpa using hlt), Array.getElem_modify_self, h']
  rfl
theorem put_chg (w : World) (g : Nat) (d : Array Nat) : Chg [g] w (Sort.putRow encN w g 0 d) := by
  refine ⟨rfl, rfl, rfl, by simp, fun k hk hs => ?_⟩
  show (w.heap.modify g _)[k]? = _
  rw [Array.getElem?_modify]
  simp at hs
  rw [if_neg (fun e => hs e.symm)]
theorem ahead_chg (w : World) (q : Nat) : Chg [] w (Sort.ahead w q) := ⟨rfl, rfl, rfl, Nat.le_refl _, fun _ _ _ => rfl⟩
/-- A row without one slot. -/
theorem delfunc_any (g cap s pb : Nat) (l : List Nat) (w : World) (h : R.OwnR 3 1 intV 0 w (.slice (some ⟨g, 0, none⟩) l.length cap) l) (hl : l.length ≤ 1000) (hpb : w.cell? ⟨pb, 0, none⟩ = some (.int .i64 (s : Nat))) (hne : pb ≠ g) :
    Calls Try.prog 65 #[.slice (some ⟨g, 0, none⟩) l.length cap, .func (.func 66) #[] #[.pointer (some ⟨pb, 0, none⟩)]] w fun e w' =>
      e = .returned (.slice (some ⟨g, 0, none⟩) (l.filter fun x => !decide (x = s)).length cap) ∧ R.OwnR 3 1 intV 0 w' (.slice (some ⟨g, 0, none⟩) (l.filter fun x => !decide (x = s)).length cap) (l.filter fun x => !decide (x = s)) ∧ Chg [g] w w' := by
  obtain ⟨h1, h2⟩ := h
  rcases h2 with ⟨hv, _⟩ | ⟨g', cap', cur, hv, hb, hh, hnc, hcm, hcs, htk⟩
  · cases hv
  cases hv
  have eg : ∀ args w, (callFunc 66 args).run Try.prog w = .ok (.enter 66 args) w := enters_of Try.func66 (by kernel_rfl) rfl
  have hHolds : Sort.Holds encN w g 0 l.toArray := by
    intro j hj
    have hj' : j < l.length := by simpa using hj
    rw [Nat.zero_add]
    refine ⟨?_, free_of hh⟩
    rw [cell_of hh]
    have e1 := R.flat_get intV 1 intV_len l j hj' 0 (by omega)
    rw [Nat.mul_one, Nat.add_zero] at e1
    have e2 : cur.toList[j]? = (cur.toList.take (l.length * 1))[j]? := by rw [List.getElem?_take_of_lt (by omega)]
    rw [← Array.getElem?_toList, e2, htk, e1]
    have : l.toArray[j]! = l[j] := by rw [getElem!_pos _ j (by simpa using hj')]; simp
    rw [this]
    rfl
  have hlt := World.block_lt_of_cell? _ _ hpb
  have hp : PredAt Try.prog 66 #[.pointer (some ⟨pb, 0, none⟩)] encN (fun x => decide (x = s)) w :=
    fun W x hbl => is_gives s x pb W ((hbl.cell (p := ⟨pb, 0, none⟩) hlt).trans hpb)
  have hpo : PredOver Try.prog 66 #[.pointer (some ⟨pb, 0, none⟩)] encN (fun x => decide (x = s)) g 0 l.toArray.size w :=
    fun n os dk x _ => is_gives s x pb _ (by
      unfold sortWorld
      rw [Sort.cell?_grow _ _ _ (by show pb < (Sort.putRow _ _ _ _ _).heap.size; rw [Sort.size_putRow]; exact hlt), Sort.cell?_putRow_other _ _ g 0 _ _ (Or.inl hne)]
      exact hpb)
  have hcon := AnyE.slices_DeleteFunc Try.laysH encN (fun _ => rfl) (fun x => decide (x = s)) 66 #[.pointer (some ⟨pb, 0, none⟩)] eg 0 (fun w => by kernel_rfl) g 0 cap l.toArray w hp hpo hHolds (by simp; omega) (by simpa using hnc)
  have e1 : l.toArray.size = l.length := by simp
  rw [e1] at hcon
  refine Calls.mono hcon ?_
  rintro e w' ⟨rfl, q, rfl⟩
  have e2 : l.toArray.toList = l := by simp
  rw [e2]
  obtain ⟨fl, hfl⟩ : ∃ fl, fl = l.filter fun x => !decide (x = s) := ⟨_, rfl⟩
  rw [← hfl]
  have hle : fl.length ≤ l.length := by rw [hfl]; exact List.length_filter_le _ _
  refine ⟨rfl, ⟨R.flat_len intV 1 intV_len fl, .inr ⟨g, cap, _, rfl, hb, put_heap (w := Sort.ahead w q) hh _, by omega, hcm, ?_, ?_⟩⟩, (ahead_chg w q).mono (by simp) |>.trans (put_chg _ _ _)⟩
  · unfold Sort.putCells
    simpa using hcs
  · exact take_put l fl cap cur _ (by simp; omega) (by omega)

end Go.Proofs.Ytgdnfempcjlipaa
