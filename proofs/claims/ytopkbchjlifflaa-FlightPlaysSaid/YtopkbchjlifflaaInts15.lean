/- Rows of integers held against each other: the document's Ints. -/
import Derived.Test.YtopkbchjlifflaaChecked
import Derived.Test.YtopkbchjlifflaaMem
import Derived.WalkLawsBesides
import Derived.Outline
import Derived.Deep.QuietTactic
import Derived.BigQuiet
namespace Go.Proofs.Ytopkbchjlifflaa
open Go.RowKit

/-- The slice v reads as the numbers l: it is a row from a block's head on, or empty. -/
def Row (k : IntKind) (w : World) (v : Value) (l : List Nat) : Prop :=
  (l = [] ∧ ∃ a c, v = .slice a 0 c) ∨ ∃ r c, v = .slice (some ⟨r, 0, none⟩) l.length c ∧ ∀ i (h : i < l.length), w.cell? ⟨r, i, none⟩ = some (.int k (l[i] : Nat))

theorem Row.slice {k : IntKind} {w : World} {v : Value} {l : List Nat} (h : Row k w v l) : ∃ a c, v = .slice a l.length c := by
  rcases h with ⟨rfl, a, c, rfl⟩ | ⟨r, c, rfl, _⟩
  · exact ⟨a, c, rfl⟩
  · exact ⟨_, _, rfl⟩
theorem Row.of_heap {k : IntKind} {w : World} {r c : Nat} {l : List Nat} {t : TypeId} {f : Nat × Nat} (h : w.heap[r]? = some (.cells (rowI k l) t f)) : Row k w (.slice (some ⟨r, 0, none⟩) l.length c) l :=
  .inr ⟨r, c, rfl, fun i hi => (cell_of h).trans (rowI_get k l i hi)⟩
theorem Row.nil {k : IntKind} {w : World} {a : Option Addr} {c : Nat} : Row k w (.slice a 0 c) [] := .inl ⟨rfl, a, c, rfl⟩

theorem ints_any (v1 v2 : Value) (l1 l2 : List Nat) (w : World) (h1 : Row .i64 w v1 l1) (h2 : Row .i64 w v2 l2) (hl : l1.length ≤ 1000000) (hl2 : l2.length ≤ 1000000) :
    Calls Try.prog 22 #[v1, v2] w fun e w' => e = .returned (.bool (decide (l1 = l2))) ∧ ∃ n, w' = w.drewN n := by
  by_cases hlen : l1.length = l2.length
  · by_cases hnil : l1 = []
    · subst hnil
      obtain rfl : l2 = [] := List.length_eq_zero_iff.1 hlen.symm
      obtain ⟨a1, c1, rfl⟩ := h1.slice
      obtain ⟨a2, c2, rfl⟩ := h2.slice
      clear h1 h2 hlen
      simp only [List.length_nil]
      go_enter Try.func22, Try.ntmps22
      go_wp2
      go_loop [5] (fun i => i = .int .i64 0) (fun _ => 0)
      case atStart => rfl
      case round =>
        subst hrel
        go_wp2
        go_ret
        exact ⟨rfl, 0, rfl⟩
    · rcases h1 with ⟨h, _⟩ | ⟨r1, c1, rfl, hc1⟩
      · exact absurd h hnil
      rcases h2 with ⟨rfl, _⟩ | ⟨r2, c2, rfl, hc2⟩
      · exact absurd (List.length_eq_zero_iff.1 hlen) hnil
      have HC1 := Lib.hid hc1
      have HC2 := Lib.hid hc2
      have HN := Lib.hid hnil
      have HLEN := Lib.hid hlen
      clear hc1 hc2 hnil
      rw [← hlen]
      clear hlen
      go_enter Try.func22, Try.ntmps22
      go_wp2
      go_loopw [5] (fun i wr => ∃ k m : Nat, k ≤ l1.length ∧ i = .int .i64 k ∧ wr = w.drewN m ∧ l1.take k = l2.take k) (fun i _ => l1.length - (intOf i).toNat)
      case atStart => exact ⟨0, 0, Nat.zero_le _, rfl, rfl, by simp⟩
      case round =>
        obtain ⟨k, m, hk, rfl, rfl, htk⟩ := hrel
        have HTK := Lib.hid htk
        clear htk
        by_cases hlt : k < l1.length
        · have hlt2 : k < l2.length := by rw [← HLEN.out]; exact hlt
          have g1 : w.cell? ⟨r1, k, none⟩ = some (.int .i64 (l1[k] : Nat)) := HC1.out k hlt
          have g2 : w.cell? ⟨r2, k, none⟩ = some (.int .i64 (l2[k] : Nat)) := HC2.out k hlt2
          have b1 : (k : Int) < (l1.length : Int) := by omega
          go_wp2
          go_quiet (fail)
          go_wp2
          · go_ret
            refine ⟨?_, _, drew2 _ _ _⟩
            have hne : l1 ≠ l2 := by intro e; subst e; simp_all
            simp [hne]
          · go_roundw
            case rel =>
              refine ⟨k + 1, _, by omega, by go_num, rfl, ?_⟩
              rw [List.take_succ_eq_append_getElem hlt, List.take_succ_eq_append_getElem hlt2, HTK.out]
              congr 2
              have he : ((l1[k] : Int) != (l2[k] : Int)) = false := by assumption
              have he2 : (l1[k] : Int) = (l2[k] : Int) := by simpa using he
              omega
            case measure => simp [intOf]; omega
        · obtain rfl : k = l1.length := by omega
          go_wp2
          go_ret
          refine ⟨?_, _, rfl⟩
          have he : l1 = l2 := by
            have := HTK.out
            rw [List.take_of_length_le (Nat.le_refl _), HLEN.out, List.take_of_length_le (Nat.le_refl _)] at this
            exact this
          simp [he]
  · obtain ⟨a1, c1, rfl⟩ := h1.slice
    obtain ⟨a2, c2, rfl⟩ := h2.slice
    have hne : l1 ≠ l2 := fun e => hlen (by rw [e])
    have HD : Hid (decide (l1 = l2) = false) := by show _ = _; simp [hne]
    clear h1 h2 hne
    go_enter Try.func22, Try.ntmps22
    go_wp2
    go_ret
    exact ⟨by rw [HD.out]; rfl, 0, rfl⟩

end Go.Proofs.Ytopkbchjlifflaa
