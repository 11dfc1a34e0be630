/- The hash of a question. -/
import Derived.Test.YtgdnfempcjlipaaCacB
import Derived.Test.YtgdnfempcjlipaaSipZ
import Derived.Test.YtgdnfempcjlipaaNameZ
import Derived.Laws.IdiomStrings
namespace Go.Proofs.Ytgdnfempcjlipaa
open Go.RowKit

def fourB (a b c d : Nat) : ByteArray := ⟨[UInt8.ofNat a, UInt8.ofNat b, UInt8.ofNat c, UInt8.ofNat d].toArray⟩
theorem conv_four (w : World) (a b c d : Nat) (ha : a < 256) (hb : b < 256) (hc : c < 256) (hd : d < 256) :
    (convert 36 9 (.slice (some ⟨w.heap.size, 0, none⟩) 4 4)).run Try.prog (w.alloc (.cells #[.int .u8 a, .int .u8 b, .int .u8 c, .int .u8 d] 5)) = .ok (.string (fourB a b c d)) (w.alloc (.cells #[.int .u8 a, .int .u8 b, .int .u8 c, .int .u8 d] 5)) := by
  have h' : ∀ m : Nat, m < 256 → (UInt8.ofNat m).toNat = m := by intro m hm; simp; omega
  exact run_convert_bytes_back _ 36 9 5 ⟨w.heap.size, 0, none⟩ 4 [UInt8.ofNat a, UInt8.ofNat b, UInt8.ofNat c, UInt8.ofNat d] Try.underlying36 Try.underlying5 Try.underlying9 (by
    intro j hj
    rw [add_at, Nat.zero_add, cell_of (heap_new w _)]
    rcases (by simp at hj; omega : j = 0 ∨ j = 1 ∨ j = 2 ∨ j = 3) with rfl | rfl | rfl | rfl
    · simp only [List.getElem_cons_zero, h' a ha]; rfl
    · simp only [List.getElem_cons_succ, List.getElem_cons_zero, h' b hb]; rfl
    · simp only [List.getElem_cons_succ, List.getElem_cons_zero, h' c hc]; rfl
    · simp only [List.getElem_cons_succ, List.getElem_cons_zero, h' d hd]; rfl)
/-- The hash of a question by a key. -/
def hashQ (k0 k1 : Nat) (q : Qn) : Nat := Si.sipN k0 k1 (Si.bytesN (fourB (q.ty / 256) (q.ty % 256) (q.cl / 256) (q.cl % 256)) ++ Si.bytesN q.nm)
def qV (q : Qn) : Array Value := #[.string q.nm, .int .u16 (q.ty : Nat), .int .u16 (q.cl : Nat)]

set_option maxRecDepth 100000 in
set_option maxHeartbeats 4000000 in
theorem hash_any (cb k0 k1 : Nat) (q : Qn) (r : Nat) (w : World) (h0 : w.cell? ⟨cb, 1, none⟩ = some (.int .u64 (k0 : Nat))) (h1 : w.cell? ⟨cb, 2, none⟩ = some (.int .u64 (k1 : Nat))) (l0 : k0 < 18446744073709551616) (l1 : k1 < 18446744073709551616)
    (hn : q.nm.size ≤ 1000) (ht : q.ty < 65536) (hc : q.cl < 65536) (hr : Hid (r = hashQ k0 k1 q)) :
    Calls Try.prog 31 #[.pointer (some ⟨cb, 0, none⟩), .agg (qV q)] w fun e w' => e = .returned (.int .u64 (r : Nat)) ∧ Chg [] w w' := by
  obtain ⟨nm, ty, cl⟩ := q
  unfold qV
  simp only at hn ht hc ⊢
  have S0 : Hid (w.cell? ⟨cb, 1, none⟩ = some (.int .u64 (k0 : Nat)) ∧ w.cell? ⟨cb, 2, none⟩ = some (.int .u64 (k1 : Nat))) := Lib.hid ⟨h0, h1⟩
  clear h0 h1
  go_enter Try.func31, Try.ntmps31
  go_wp2_with fail
  obtain ⟨p, hp⟩ : ∃ p, p = w.heap.size := ⟨_, rfl⟩
  rw [← hp]
  refine wp_abs ?_
  intro w0 hw0
  have hc0 : Chg [] w w0 := by rw [hw0]; exact (Chg.refl _ _).alloc _
  have hp0 : w0.heap[p]? = some (.cells #[.string nm, .int .u16 (ty : Nat), .int .u16 (cl : Nat)] 24 (0, 0)) := by rw [hw0, hp]; exact heap_new _ _
  have S1 := Lib.hid (And.intro (hc0.cell S0.out.1 (by simp)) (hc0.cell S0.out.2 (by simp)))
  have HP0 := Lib.hid hp0
  have HC0 := Lib.hid hc0
  clear hw0 hp hc0 hp0 S0
  go_region_held3 (fun W => W.cell? ⟨cb, 1, none⟩ = some (.int .u64 (k0 : Nat)) ∧ W.cell? ⟨cb, 2, none⟩ = some (.int .u64 (k1 : Nat))) (first | (with_reducible exact S2.out) | exact S1.out) (first | (go_at_call 51; refine (Si.make_any k0 k1 _ l0 l1).mono ?_; rintro e9 w1 ⟨rfl, ho1, hc1⟩; replace hc1 := hc1.undrew; have S2 := Lib.hid (And.intro (hc1.cell S1.out.1 (by simp)) (hc1.cell S1.out.2 (by simp)))))
  have ho2 : Si.HashAt w1 w0.heap.size k0 k1 [] := ho1
  clear ho1
  have ho1 := ho2
  clear ho2
  have hc1' : Chg [] w0 w1 := hc1
  obtain ⟨hb, hhb⟩ : ∃ hb, hb = w0.heap.size := ⟨_, rfl⟩
  rw [← hhb] at ho1 ⊢
  have HO1 := Lib.hid ho1
  have HC1 := Lib.hid hc1
  have hp1 := hc1.keep HP0.out (by simp)
  have HP1 := Lib.hid hp1
  have p1 : w1.cell? ⟨p, 1, none⟩ = some (.int .u16 (ty : Nat)) := cell_of hp1
  have p2 : w1.cell? ⟨p, 2, none⟩ = some (.int .u16 (cl : Nat)) := cell_of hp1
  have hlb : w0.heap.size ≤ hb := by omega
  have hpb : p ≠ hb := by have := lt_of_block HP0.out; omega
  clear hhb ho1 hc1 hp1 S1 S2 HP0
  obtain ⟨fb, hfb⟩ : ∃ fb, fb = fourB (ty / 256) (ty % 256) (cl / 256) (cl % 256) := ⟨_, rfl⟩
  have hcv : (convert 36 9 (.slice (some ⟨w1.heap.size, 0, none⟩) 4 4)).run Try.prog (w1.alloc (.cells #[.int .u8 ((ty : Int) / 256), .int .u8 ((ty : Int) % 256), .int .u8 ((cl : Int) / 256), .int .u8 ((cl : Int) % 256)] 5)) = .ok (.string fb) (w1.alloc (.cells #[.int .u8 ((ty : Int) / 256), .int .u8 ((ty : Int) % 256), .int .u8 ((cl : Int) / 256), .int .u8 ((cl : Int) % 256)] 5)) := by
    rw [hfb]
    exact conv_four w1 (ty / 256) (ty % 256) (cl / 256) (cl % 256) (by omega) (by omega) (by omega) (by omega)
  have hfs : fb.size = 4 := by rw [hfb]; rfl
  have HFB := Lib.hid hfb
  have HFS := Lib.hid hfs
  clear hfb hfs
  go_wp2_with fail
  refine (Si.write_any hb k0 k1 [] fb _ (HO1.out.chg ((Chg.refl [] _).alloc _) (by simp)) (by simp) (by rw [HFS.out]; omega)).mono ?_
  rintro e9 w2 ⟨rfl, ho2, hc2⟩
  rw [List.nil_append] at ho2
  have hc2' : Chg [hb] w1 w2 := ((Chg.refl [hb] w1).alloc _).trans hc2
  have hp2 := hc2'.keep HP1.out (by simp; omega)
  have p0 : w2.cell? ⟨p, 0, none⟩ = some (.string nm) := cell_of hp2
  have HO2 := Lib.hid ho2
  clear hcv ho2 hc2 hp2 p1 p2 HP1 HO1
  go_wp2_with fail
  refine (Si.write_any hb k0 k1 (Si.bytesN fb) nm _ HO2.out (by rw [Si.bytesN_len, HFS.out]; omega) (by omega)).mono ?_
  rintro e9 w3 ⟨rfl, ho3, hc3⟩
  have HO3 := Lib.hid ho3
  have hend : Chg [] w w3 := ((HC0.out.trans hc1').trans_new hc2' (by intro x hx; simp at hx; right; have := HC0.out.size; omega)).trans_new hc3 (by intro x hx; simp at hx; right; have := HC0.out.size; omega)
  have HEND := Lib.hid hend
  clear ho3 hc3 hend p0 HO2 hc2' hc1' HC1 HC0
  go_wp2_with fail
  refine (Si.sum_any hb k0 k1 _ _ HO3.out (by rw [List.length_append, Si.bytesN_len, Si.bytesN_len, HFS.out]; omega)).mono ?_
  rintro e9 w4 ⟨rfl, hc4⟩
  have hlast : Si.sipN k0 k1 (Si.bytesN fb ++ Si.bytesN nm) = r := by rw [hr.out, HFB.out]; rfl
  rw [hlast]
  have HFIN := Lib.hid (HEND.out.trans hc4)
  clear hc4 hlast
  go_wp2
  go_ret
  exact ⟨rfl, HFIN.out⟩

end Go.Proofs.Ytgdnfempcjlipaa
