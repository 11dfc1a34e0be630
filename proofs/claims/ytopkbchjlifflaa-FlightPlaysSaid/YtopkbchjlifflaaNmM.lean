/- The document's names: Low, Bytes, Fold, Same. -/
import Derived.Test.YtopkbchjlifflaaNmL
import Derived.Deep.RegionWith
namespace Go.Proofs.Ytopkbchjlifflaa
open Go.RowKit

def oneB (m : Nat) : ByteArray := ⟨[UInt8.ofNat m].toArray⟩
theorem oneB_size (m : Nat) : (oneB m).size = 1 := rfl
theorem conv_byte (w : World) (m : Nat) (hm : m < 256) :
    (convert 105 9 (.slice (some ⟨w.heap.size, 0, none⟩) 1 1)).run Try.prog (w.alloc (.cells #[.int .u8 m] 5)) = .ok (.string (oneB m)) (w.alloc (.cells #[.int .u8 m] 5)) := by
  have hm' : (UInt8.ofNat m).toNat = m := by simp; omega
  exact run_convert_bytes_back _ 105 9 5 ⟨w.heap.size, 0, none⟩ 1 [UInt8.ofNat m] Try.underlying105 Try.underlying5 Try.underlying9 (by
    intro j hj
    have : j = 0 := by simp at hj; omega
    subst this
    simp only [List.getElem_cons_zero, hm']
    exact (cell_of (heap_new w _)).trans rfl)
theorem cat_list (a b : ByteArray) : (a ++ b).data.toList = a.data.toList ++ b.data.toList := by
  rw [ByteArray.data_append, Array.toList_append]
theorem ba_ext {a b : ByteArray} (h : a.data.toList = b.data.toList) : a = b := by
  cases a; cases b
  simp only at h
  congr 1
  exact Array.ext' h
theorem lowS_list (s : ByteArray) : (lowS s).data.toList = lowL s.data.toList := by unfold lowS; simp
theorem lowS_size (s : ByteArray) : (lowS s).size = s.size := by
  rw [← size_list, ← size_list, lowS_list, lowL_len]
def LowR2 (s : ByteArray) (w : World) (v i : Value) (wr : World) : Prop := ∃ (j : Nat) (T : ByteArray), j ≤ s.size ∧ i = .int .i64 (j : Nat) ∧ v = .string T ∧ Hid (T.data.toList = (lowL s.data.toList).take j) ∧ Hid (T.size = j) ∧ Chg [] w wr
theorem low_step {s T : ByteArray} {j : Nat} (hj : j < s.size) (h : T.data.toList = (lowL s.data.toList).take j) : (T ++ oneB (lowC s[j]).toNat).data.toList = (lowL s.data.toList).take (j + 1) := by
  have hl : j < (lowL s.data.toList).length := by rw [lowL_len, size_list]; exact hj
  rw [cat_list, h, List.take_succ_eq_append_getElem hl]
  congr 1
  show [UInt8.ofNat (lowC s[j]).toNat] = _
  rw [UInt8.ofNat_toNat]
  simp [lowL]
  rfl
set_option maxRecDepth 100000 in
theorem rlow_any (s : ByteArray) (w : World) (hs : s.size ≤ 100000) :
    Calls Try.prog 54 #[.string s] w fun e w' => e = .returned (.string (lowS s)) ∧ Chg [] w w' := by
  go_enter Try.func54, Try.ntmps54
  go_wp2_with fail
  go_loopw [3, 4] (LowR2 s w) (fun _ i _ => s.size - (intOf i).toNat)
  case atStart => exact ⟨0, ⟨#[]⟩, Nat.zero_le _, rfl, rfl, Lib.hid (by simp), Lib.hid rfl, Chg.refl _ _⟩
  case round =>
    obtain ⟨j, T, hj, rfl, rfl, HT, hTs, hC⟩ := hrel
    by_cases hlt : j < s.size
    · have hst := low_step hlt HT.out
      have hsz : (T ++ oneB (lowC s[j]).toNat).size = j + 1 := by rw [ByteArray.size_append, oneB_size, hTs.out]
      have hc8 : s[j].toNat ≤ 255 := by have := UInt8.toNat_lt s[j]; omega
      by_cases hup : 65 ≤ s[j].toNat ∧ s[j].toNat ≤ 90
      · have hv := lowC_val hup
        have t1 : decide (65 ≤ s[j].toNat) = true := by simp; omega
        have t2 : decide (s[j].toNat ≤ 90) = true := by simp; omega
        have t1I : decide ((65 : Int) ≤ (s[j].toNat : Int)) = true := by simp; omega
        have t2I : decide ((s[j].toNat : Int) ≤ 90) = true := by simp; omega
        have hb1 : s[j].toNat ≤ 90 := hup.2
        have hcv := conv_byte wr (s[j].toNat + 32) (by omega)
        have ec : ((s[j].toNat + 32 : Nat) : Int) = (s[j].toNat : Int) + 32 := by omega
        rw [ec] at hcv
        rw [hv] at hst hsz
        obtain ⟨x, hx⟩ : ∃ x, x = oneB (s[j].toNat + 32) := ⟨_, rfl⟩
        rw [← hx] at hst hsz hcv
        have hx1 : x.size = 1 := by rw [hx]; rfl
        have hmx : ¬9223372036854775807 < T.size + x.size := by have := hTs.out; omega
        clear hx1
        have HST := Lib.hid hst
        have HSZ := Lib.hid hsz
        have HC := Lib.hid hC
        clear hup hv hst hsz hx ec hC HT
        go_wp2
        go_roundw
        case rel => exact ⟨j + 1, _, by omega, by go_num, rfl, HST, HSZ, HC.out.alloc _⟩
        case measure => simp [intOf] <;> omega
      · have hno : lowC s[j] = s[j] := by unfold lowC; rw [if_neg hup]
        have hcv := conv_byte wr s[j].toNat (by omega)
        rw [hno] at hst hsz
        obtain ⟨x, hx⟩ : ∃ x, x = oneB s[j].toNat := ⟨_, rfl⟩
        rw [← hx] at hst hsz hcv
        have hx1 : x.size = 1 := by rw [hx]; rfl
        have hmx : ¬9223372036854775807 < T.size + x.size := by have := hTs.out; omega
        clear hx1
        have HST := Lib.hid hst
        have HSZ := Lib.hid hsz
        have HC := Lib.hid hC
        by_cases h65 : 65 ≤ s[j].toNat
        case' pos =>
          have t1 : decide (65 ≤ s[j].toNat) = true := by simpa using h65
          have t1I : decide ((65 : Int) ≤ (s[j].toNat : Int)) = true := by simp; omega
          have t2 : decide (s[j].toNat ≤ 90) = false := by simp; omega
          have t2I : decide ((s[j].toNat : Int) ≤ 90) = false := by simp; omega
        case' neg =>
          have t1 : decide (65 ≤ s[j].toNat) = false := by simpa using h65
          have t1I : decide ((65 : Int) ≤ (s[j].toNat : Int)) = false := by simp; omega
        all_goals
          clear hup hno h65 hst hsz hx hC HT
          go_wp2
          go_roundw
          case rel => exact ⟨j + 1, _, by omega, by go_num, rfl, HST, HSZ, HC.out.alloc _⟩
          case measure => simp [intOf] <;> omega
    · obtain rfl : j = s.size := by omega
      have e : T = lowS s := by
        refine ba_ext ?_
        rw [HT.out, lowS_list, List.take_of_length_le (by rw [lowL_len, size_list]; exact Nat.le_refl _)]
      subst e
      clear HT
      go_wp2
      go_ret
      exact ⟨rfl, hC⟩

/-- All orders of a region, in one. -/
def OneEndN (A : Act) (W : World) : Exit → Act → World → Prop
  | .normal, a, w => a = A ∧ w = W
  | _, _, _ => False
theorem wp_oneN {P : Program} {c : Code} {Q : Exit → Act → World → Prop} {a : Act} {w : World} (A : Act) (W : World) (h : c.wp P (OneEndN A W) a w) (k : Q .normal A W) : c.wp P Q a w :=
  Code.wp_mono (fun e a w hq => by
    cases e with
    | normal => obtain ⟨rfl, rfl⟩ := hq; exact k
    | _ => exact hq.elim) h
/-- Labels, each behind its length. -/
def catP (l : List ByteArray) : List UInt8 := l.flatMap fun x => UInt8.ofNat x.size :: x.data.toList
theorem catP_snoc (l : List ByteArray) (x : ByteArray) : catP (l ++ [x]) = catP l ++ (UInt8.ofNat x.size :: x.data.toList) := by simp [catP]
def BytR (l : List ByteArray) (w : World) (v i : Value) (wr : World) : Prop := ∃ (j : Nat) (T : ByteArray), j ≤ l.length ∧ i = .int .i64 (j : Nat) ∧ v = .string T ∧ Hid (T.data.toList = catP (l.take j)) ∧ T.size ≤ j * 256 ∧ Chg [] w wr
set_option maxRecDepth 100000 in
set_option maxHeartbeats 2000000 in
theorem rbytes_any (base : Nat) (v : Value) (l : List ByteArray) (t : ByteArray) (w : World) (h : R.OwnR 9 1 tV base w v l) (hl : l.length ≤ 1000) (hx : ∀ x ∈ l, x.size ≤ 255) (ht : Hid (t.data.toList = catP l ++ [0])) :
    Calls Try.prog 55 #[v] w fun e w' => e = .returned (.string t) ∧ Chg [] w w' := by
  obtain ⟨va, vc, rfl⟩ := h.len
  have H := Lib.hid h
  have HX := Lib.hid hx
  clear h hx
  go_enter Try.func55, Try.ntmps55
  go_wp2_with fail
  go_loopw [3, 4] (BytR l w) (fun _ i _ => l.length - (intOf i).toNat)
  case atStart => exact ⟨0, ⟨#[]⟩, Nat.zero_le _, rfl, rfl, Lib.hid rfl, Nat.zero_le _, Chg.refl _ _⟩
  case round =>
    obtain ⟨j, T, hj, rfl, rfl, HT, hTs, hC⟩ := hrel
    by_cases hlt : j < l.length
    · obtain ⟨g, c, hv, _, _, hcl⟩ := H.out.cells tV_len (by omega)
      have hv1 := (Value.slice.inj hv).1
      clear hv
      subst hv1
      obtain ⟨x, hxx⟩ : ∃ x, x = l[j] := ⟨_, rfl⟩
      have d0 := hC.cell (hcl j hlt 0 (.string x) (by rw [← hxx]; rfl)) (by simp)
      rw [Nat.mul_one, Nat.add_zero] at d0
      have hxs : x.size ≤ 255 := by rw [hxx]; exact HX.out _ (List.getElem_mem hlt)
      have htk : l.take (j + 1) = l.take j ++ [x] := by rw [List.take_succ_eq_append_getElem hlt, ← hxx]
      have ew : IntKind.u8.wrap (x.size : Int) = (x.size : Int) := by rw [IntKind.wrap_u8]; omega
      have hcv : (convert 105 9 (.slice (some ⟨wr.heap.size, 0, none⟩) 1 1)).run Try.prog ((wr.alloc (.cells #[.int .u8 (x.size : Int)] 5)).drew) = .ok (.string (oneB x.size)) ((wr.alloc (.cells #[.int .u8 (x.size : Int)] 5)).drew) := conv_byte wr.drew x.size (by omega)
      have hnew : ((T ++ oneB x.size) ++ x).data.toList = catP (l.take (j + 1)) := by
        rw [htk, catP_snoc, cat_list, cat_list, HT.out, List.append_assoc]
        rfl
      have hns : ((T ++ oneB x.size) ++ x).size ≤ (j + 1) * 256 := by
        rw [ByteArray.size_append, ByteArray.size_append, oneB_size]; omega
      obtain ⟨o, ho⟩ : ∃ o, o = oneB x.size := ⟨_, rfl⟩
      have hos : o.size = 1 := by rw [ho, oneB_size]
      rw [← ho] at hnew hns hcv
      have HNEW := Lib.hid hnew
      have hm1 : ¬9223372036854775807 < T.size + o.size := by omega
      have hm2 : ¬9223372036854775807 < (T ++ o).size + x.size := by rw [ByteArray.size_append]; omega
      have hm3 : ¬9223372036854775807 < T.size + o.size + x.size := by omega
      have HNS := Lib.hid hns
      have HC := Lib.hid hC
      clear hcl hxx htk hnew hns ho hC HT H
      go_wp2_with fail
      have n0 : wr.heap.size ≠ g := Nat.ne_of_gt (World.block_lt_of_cell? wr _ d0)
      have a0 : (wr.alloc (.cells #[.int .u8 (x.size : Int)] 5)).drew.cell? ⟨g, j, none⟩ = some (.string x) := ((Chg.refl [] wr).alloc _).drew.cell d0 (by simp)
      apply wp_oneN
      case h =>
        go_region_with (fail)
        all_goals exact ⟨rfl, rfl⟩
      case k =>
        clear d0 n0 a0 hcv
        go_wp2
        go_roundw
        case rel => exact ⟨j + 1, _, by omega, by go_num, rfl, HNEW, HNS.out, (HC.out.drew).alloc _⟩
        case measure => simp [intOf] <;> omega
    · obtain rfl : j = l.length := by omega
      have hm1 : ¬9223372036854775807 < T.size + (⟨#[0]⟩ : ByteArray).size := by have : (⟨#[0]⟩ : ByteArray).size = 1 := rfl; omega
      have hm2 : ¬9223372036854775807 < T.size + 1 := by omega
      have e : T ++ ⟨#[0]⟩ = t := by
        refine ba_ext ?_
        rw [cat_list, HT.out, ht.out, List.take_of_length_le (Nat.le_refl _)]
      subst e
      clear HT ht
      go_wp2
      go_ret
      exact ⟨rfl, hC⟩

end Go.Proofs.Ytopkbchjlifflaa
