/- Slices of unsigned numbers that came in, as lists of natural numbers. -/
import Derived.Test.YteehenajchdgaaaWf
import Derived.Test.YteehenajchdgaaaReads12
namespace Go.Proofs.Yteehenajchdgaaa.D
open Go.RowKit

/-- A slice that came in, element by element. -/
def ArgRow (k : IntKind) (w : World) (a : Option Addr) (l : List Nat) : Prop :=
  ∀ i (h : i < l.length), ∃ r o, a = some ⟨r, o, none⟩ ∧ r < w.heap.size ∧ w.cell? ⟨r, o + i, none⟩ = some (.int k (l[i] : Nat))

theorem spot_none {w : World} {x : Addr} {v : Value} (h : w.cell? x = some v) : x = ⟨x.block, x.off, none⟩ := by
  obtain ⟨b, o, s⟩ := x
  cases s with
  | none => rfl
  | some s =>
    exfalso
    unfold World.cell? at h
    split at h <;> simp at h

theorem add_plain (b o i : Nat) : (⟨b, o, none⟩ : Addr).add i = ⟨b, o + i, none⟩ := by unfold Addr.add; split <;> simp_all

theorem arg_u64 {w : World} {a : Option Addr} {len cap : Nat} {zs : List Int} (h : IsRow .u64 w a len cap zs) :
    ∃ l : List Nat, l.length = len ∧ (∀ x ∈ l, x < 18446744073709551616) ∧ Reads .u64 w (.slice a len cap) l ∧ ArgRow .u64 w a l ∧ len ≤ maxLen := by
  rcases h with ⟨rfl, rfl, rfl, rfl⟩ | ⟨x, rfl, hl, hm, hz, hc, hw⟩
  · exact ⟨[], rfl, by simp, reads_nil, fun i h => absurd h (by simp), Nat.zero_le _⟩
  · have hget : ∀ i (h : i < len), ∃ n : Nat, zs.getD i 0 = n ∧ n < 18446744073709551616 := by
      intro i h
      have hi : i < zs.length := by omega
      have := nat_of_u64 (hw zs[i] (List.getElem_mem hi))
      simpa [hi] using this
    refine ⟨(List.range len).map fun i => (zs.getD i 0).toNat, by simp, ?_, ⟨some x, cap, by simp, by simp, by simp, ?_⟩, ?_, by omega⟩
    · intro y hy
      simp only [List.mem_map, List.mem_range] at hy
      obtain ⟨i, hi, rfl⟩ := hy
      obtain ⟨n, e, hn⟩ := hget i hi
      rw [e]; omega
    · intro p hp i hi
      cases hp
      simp at hi
      obtain ⟨n, e, hn⟩ := hget i hi
      rw [hc i (by omega)]
      simp only [List.getElem_map, List.getElem_range]
      rw [e]; rfl
    · intro i hi
      simp at hi
      obtain ⟨n, e, hn⟩ := hget i hi
      have h0 := hc 0 (by omega)
      have hx := spot_none (x := x) (by simpa [Addr.add] using h0)
      refine ⟨x.block, x.off, by rw [← hx], ?_, ?_⟩
      · have := World.block_lt_of_cell? _ _ h0
        rwa [add_block] at this
      · have := hc i (by omega)
        rw [e] at this
        simp only [List.getElem_map, List.getElem_range]
        rw [e]
        have e2 := add_plain x.block x.off i
        rw [← hx] at e2
        rw [← e2, this]; rfl

/-- A slice of signed numbers that came in, element by element. -/
def ArgRowI (k : IntKind) (w : World) (a : Option Addr) (l : List Int) : Prop :=
  ∀ i (h : i < l.length), ∃ r o, a = some ⟨r, o, none⟩ ∧ r < w.heap.size ∧ w.cell? ⟨r, o + i, none⟩ = some (.int k l[i])

theorem arg_ints {k : IntKind} {w : World} {a : Option Addr} {len cap : Nat} {zs : List Int} (h : IsRow k w a len cap zs) :
    ∃ l : List Int, l.length = len ∧ (∀ x ∈ l, (Lit.int k x).wf = true) ∧ ArgRowI k w a l ∧ len ≤ maxLen := by
  rcases h with ⟨rfl, rfl, rfl, rfl⟩ | ⟨x, rfl, hl, hm, hz, hc, hw⟩
  · exact ⟨[], rfl, by simp, fun i h => absurd h (by simp), Nat.zero_le _⟩
  · refine ⟨zs.take len, by simp; omega, fun y hy => hw y (List.mem_of_mem_take hy), ?_, by omega⟩
    intro i hi
    simp at hi
    have h0 := hc 0 (by omega)
    have hx := spot_none (x := x) (by simpa [Addr.add] using h0)
    refine ⟨x.block, x.off, by rw [← hx], ?_, ?_⟩
    · have := World.block_lt_of_cell? _ _ h0
      rwa [add_block] at this
    · have := hc i (by omega)
      have e2 := add_plain x.block x.off i
      rw [← hx] at e2
      rw [← e2, this]
      have hi3 : i < zs.length := by omega
      simp [hi3]

theorem bounds_i64' {n : Int} (h : (Lit.int .i64 n).wf = true) : -9223372036854775808 ≤ n ∧ n ≤ 9223372036854775807 := by
  simp [Lit.wf, IntKind.min, IntKind.max, IntKind.signed, IntKind.bits] at h
  omega

end Go.Proofs.Yteehenajchdgaaa.D
