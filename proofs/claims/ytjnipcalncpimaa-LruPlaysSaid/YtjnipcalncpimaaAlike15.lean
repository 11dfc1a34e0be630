/- The walk of alike: a list held against the document's. -/
import Derived.Test.YtjnipcalncpimaaRef15b
import Derived.Test.YtjnipcalncpimaaLruApartW
import Derived.Deep.RegionHeld3
namespace Go.Proofs.Ytjnipcalncpimaa
open Go.RowKit

def AlikeR (n g : Nat) (w5 : World) (i : Value) (wr : World) : Prop :=
  ∃ (j : Nat) (cur : Array Value), j ≤ n ∧ i = .int .i64 j ∧ wr.heap[g]? = some (.cells cur 3 (0, 0)) ∧ n ≤ cur.size ∧ Chg [g] w5 wr

set_option maxRecDepth 100000 in
set_option maxHeartbeats 4000000 in
theorem alike_any (base b q n : Nat) (row : List Nat) (w : World) (h : LruAt w b n row) (hx : RefL base w q n row) :
    Calls Try.prog 26 #[.pointer (some ⟨b, 0, none⟩), .pointer (some ⟨q, 0, none⟩)] w fun e w' => e = .returned (.bool true) ∧ Chg [] w w' := by
  have hlen := h.len
  obtain ⟨f, hf⟩ : ∃ f, f = firstOf row := ⟨_, rfl⟩
  obtain ⟨l, hl⟩ : ∃ l, l = lastOf row := ⟨_, rfl⟩
  obtain ⟨e, he⟩ : ∃ e, e = !row.isEmpty := ⟨_, rfl⟩
  have HF := Lib.hid hf
  have HL := Lib.hid hl
  have HE := Lib.hid he
  clear hf hl he
  go_enter Try.func26, Try.ntmps26
  go_wp2_with fail
  refine (oldest_any b n f e _ _ h HF.out HE.out).mono ?_
  rintro e1 w1 ⟨rfl, rfl⟩
  go_wp2_with fail
  refine (roldest_any base q n f e _ _ hx HF.out HE.out).mono ?_
  rintro e1 w1 ⟨rfl, rfl⟩
  go_wp2_with fail
  refine (newest_any b n l e _ _ h HL.out HE.out).mono ?_
  rintro e1 w1 ⟨rfl, rfl⟩
  go_wp2_with fail
  refine (rnewest_any base q n l e _ _ hx HL.out HE.out).mono ?_
  rintro e1 w1 ⟨rfl, m1, hw1⟩
  have h1 : LruAt w1 b n row := by rw [hw1]; exact h
  have x1 : RefL base w1 q n row := by rw [hw1]; exact hx
  have hC1 : Chg [] w w1 := by rw [hw1]; exact (Chg.refl _ _).drewN _
  clear hw1 h hx
  go_wp2_with fail
  refine (row_any b n _ _ h1).mono ?_
  rintro e1 w2 ⟨v2, rfl, hown2, hc2⟩
  obtain ⟨a2, c2, rfl⟩ := owns_len hown2
  have h2 := h1.chg hc2 (by simp)
  have x2 := x1.chg hc2 (by simp) (by simp)
  have hC2 : Chg [] w w2 := hC1.trans hc2
  have HOWN2 := Lib.hid hown2
  have hb2 : w1.heap.size ≤ w2.heap.size := hc2.size
  have hw1 : w.heap.size ≤ w1.heap.size := hC1.size
  clear hown2 hc2 h1 x1
  obtain ⟨_, v, hq2, ho2⟩ := id x2
  obtain ⟨av, cv, rfl⟩ := owns_len ho2
  have k1 : w2.cell? ⟨q, 0 + 1, none⟩ = some (.slice av row.length cv) := cell_of hq2
  have k1' : w2.cell? ⟨q, 1, none⟩ = some (.slice av row.length cv) := k1
  have HO2 := Lib.hid ho2
  clear hq2 ho2
  go_wp2_with fail
  go_region_held3 (fun w' => w'.cell? ⟨q, 1, none⟩ = some (.slice av row.length cv)) (first | exact k1' | assumption) (first | (go_at_call 17; refine (len_any b n row _ ?_).mono ?_; exact h2; rintro e1 w3 ⟨rfl, hc3⟩; replace hc3 := hc3.undrew; have k3 : w3.cell? ⟨q, 1, none⟩ = some (.slice av row.length cv) := hc3.cell k1' (by simp)) | (go_at_call 15; refine (ints_any _ _ row row _ ?_ ?_ ?_ ?_).mono ?_; exact (row_of_own HOWN2.out).chg hc3 (by simp); exact (row_of_own HO2.out).chg hc3 (by simp); omega; omega; rintro e1 w4 ⟨rfl, n4, hw4⟩; have hc4 : Chg [] w3 w4 := (by rw [hw4]; exact (Chg.refl _ _).drewN _); clear hw4; have k4 : w4.cell? ⟨q, 1, none⟩ = some (.slice av row.length cv) := hc4.cell k3 (by simp)))
  have hC4 : Chg [] w w4 := (hC2.trans hc3).trans hc4
  have HOWN4 : Hid (OwnI w1.heap.size w4 (.slice a2 row.length c2) row) := owns_keep (owns_keep HOWN2.out hc3 (by simp)) hc4 (by simp)
  clear k1 k1' k3 k4 hc3 hc4 h2 x2 hC2 HOWN2 HO2
  by_cases hnil : row = []
  · subst hnil
    simp only [List.length_nil]
    go_wp2_with fail
    go_loop [15] (fun i => i = .int .i64 0) (fun _ => 0)
    case atStart => rfl
    case round =>
      subst hrel
      go_wp2
      go_ret
      exact ⟨rfl, hC4⟩
  · obtain ⟨g, cap, cur, hv, hg, hh, hle, hsz⟩ : ∃ g cap cur, (Value.slice a2 row.length c2) = .slice (some ⟨g, 0, none⟩) row.length cap ∧ w1.heap.size ≤ g ∧ w4.heap[g]? = some (.cells cur 3 (0, 0)) ∧ row.length ≤ cap ∧ cur.size = cap * 1 := by
      obtain ⟨_, h⟩ := HOWN4.out
      rcases h with ⟨_, hn⟩ | ⟨g, cap, cur, hv, hg, hh, hle, _, hsz, _⟩
      · exact absurd (List.length_eq_zero_iff.1 hn) hnil
      · exact ⟨g, cap, cur, hv, hg, hh, hle, hsz⟩
    injection hv with hv1 hv2 hv3
    subst hv1
    have HH := Lib.hid hh
    clear hv2 hh HOWN4 hnil
    go_wp2_with fail
    go_loopw [15] (AlikeR row.length g w4) (fun i _ => row.length - (intOf i).toNat)
    case atStart => exact ⟨0, cur, Nat.zero_le _, rfl, HH.out, by omega, Chg.refl _ _⟩
    case round =>
      obtain ⟨j, cur, hj, rfl, hcur, hszc, hck⟩ := hrel
      by_cases hlt : j < row.length
      · obtain ⟨y, hy⟩ : ∃ y, cur[j]? = some y := ⟨cur[j]'(by omega), by simp⟩
        have c1 : wr.cell? ⟨g, j, none⟩ = some y := (cell_of hcur).trans hy
        have f1 : wr.frozen? ⟨g, j, none⟩ = false := free_of hcur
        have HCK := Lib.hid hcur
        clear hcur hy
        go_wp2
        go_roundw
        case rel => exact ⟨j + 1, _, by omega, by go_num, heap_set HCK.out _, by simpa using hszc, hck.trans (Chg.set1 _ _ _ _)⟩
        case measure => simp [intOf] <;> omega
      · go_wp2
        go_ret
        exact ⟨rfl, hC4.trans_new hck (by simp; omega)⟩

end Go.Proofs.Ytjnipcalncpimaa
