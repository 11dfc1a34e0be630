/- The acts that came in: what is done, and a text. -/
import Derived.Test.YthaikobmelalgaaStrs
namespace Go.Proofs.Ythaikobmelalgaa
open Go.ChangeShapes Go.WideShapes Go.Deep Go.RowKit

/-- A slice of acts, as a list of pairs. -/
def IsActs (w : World) (a : Option Addr) (acts : List (Nat × ByteArray)) : Prop :=
  acts.length ≤ maxLen ∧ ∀ i (h : i < acts.length), ∃ b o, a = some ⟨b, o, none⟩ ∧ b < w.heap.size ∧ w.cell? ⟨b, o + i * 2, none⟩ = some (.int .u8 (acts[i].1 : Nat)) ∧
    w.cell? ⟨b, o + i * 2 + 1, none⟩ = some (.string acts[i].2) ∧ acts[i].1 < 256 ∧ acts[i].2.size ≤ maxLen

theorem nat_u8 {n : Int} (h : (Lit.int .u8 n).wf = true) : 0 ≤ n ∧ n < 256 := by
  simp [Lit.wf, IntKind.min, IntKind.max, IntKind.signed, IntKind.bits] at h
  omega

/-- The string in a cell. -/
def strAt (w : World) (b o : Nat) : ByteArray := match w.cell? ⟨b, o, none⟩ with | some (.string s) => s | _ => ByteArray.empty
theorem strAt_of {w : World} {b o : Nat} {s : ByteArray} (h : w.cell? ⟨b, o, none⟩ = some (.string s)) : strAt w b o = s := by
  unfold strAt; rw [h]

theorem open_acts {H : Type} {enc : TypeId × Value → H} {w : World} {r : Reach} {b0 base : Nat} {spare : Nat → Bool} {held : Bool} {v : Value} {d : DataW H} {p : List MemPlace}
    (hv : Value.okWide Try.prog w r b0 42 v) (h : DataW.Trod enc Try.prog w base spare held 42 v d p) :
    ∃ a cap acts, v = .slice a acts.length cap ∧ IsActs w a acts := by
  obtain ⟨a, len, cap, rfl, hm, _, hx⟩ := recs_open Try.underlying42 Try.underlying45 (by
    intro j f hj
    match j with
    | 0 => simp at hj; subst hj; exact ⟨rfl, by kernel_rfl⟩
    | 1 => simp at hj; subst hj; exact ⟨rfl, by kernel_rfl⟩
    | j + 2 => simp at hj) (by kernel_rfl) (by decide) hv h
  have key : ∀ i, i < len → ∃ b o n m, a = some ⟨b, o, none⟩ ∧ b < w.heap.size ∧ w.cell? ⟨b, o + i * 2, none⟩ = some (.int .u8 n) ∧ w.cell? ⟨b, o + i * 2 + 1, none⟩ = some (.string m) ∧ (0 ≤ n ∧ n < 256) ∧ m.size ≤ maxLen := by
    intro i hi
    obtain ⟨b, o, ha, hb, hf⟩ := hx i hi
    obtain ⟨u0, n0, y0, hc0, ht0⟩ := hf 0 _ rfl
    obtain ⟨u1, n1, y1, hc1, ht1⟩ := hf 1 _ rfl
    obtain ⟨n, e0, _, wn⟩ := DataW.trod_int Try.underlying5 ht0
    obtain ⟨m, e1, _, wm⟩ := DataW.trod_string Try.underlying9 ht1
    simp at e0 e1
    subst e0; subst e1
    exact ⟨b, o, n, m, ha, hb, hc0, by rw [Nat.add_assoc]; exact hc1, nat_u8 wn, wm⟩
  refine ⟨a, cap, (List.range len).map fun i => ((numAt w (blkOf a) (offOf a + i * 2)).toNat, strAt w (blkOf a) (offOf a + i * 2 + 1)), by simp, by simpa using hm, ?_⟩
  intro i hi
  simp at hi
  obtain ⟨b, o, n, m, ha, hb, hc0, hc1, hn, hmm⟩ := key i hi
  have hB : blkOf a = b := by rw [ha]; rfl
  have hO : offOf a = o := by rw [ha]; rfl
  simp only [List.getElem_map, List.getElem_range, hB, hO, numAt_of hc0, strAt_of hc1]
  refine ⟨b, o, ha, hb, ?_, hc1, by omega, hmm⟩
  rw [hc0]
  congr 2
  omega

end Go.Proofs.Ythaikobmelalgaa
