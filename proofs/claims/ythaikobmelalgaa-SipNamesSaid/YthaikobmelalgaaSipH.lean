/- The document's Sum. -/
import Derived.Test.YthaikobmelalgaaSipG
import Derived.Laws.IdiomStrings
namespace Go.Proofs.Ythaikobmelalgaa
open Go.RowKit

theorem conv_one (w : World) (m : Nat) (hm : m < 256) (hs : Try.prog.underlying 34 = some (.slice 5)) :
    ∃ U : ByteArray, bytesN U = [m] ∧ (convert 34 9 (.slice (some ⟨w.heap.size, 0, none⟩) 1 1)).run Try.prog (w.alloc (.cells #[.int .u8 m] 5)) = .ok (.string U) (w.alloc (.cells #[.int .u8 m] 5)) := by
  have hm' : (UInt8.ofNat m).toNat = m := by simp; omega
  refine ⟨⟨[UInt8.ofNat m].toArray⟩, by simp [bytesN]; omega, ?_⟩
  exact run_convert_bytes_back _ 34 9 5 ⟨w.heap.size, 0, none⟩ 1 [UInt8.ofNat m] hs Try.underlying5 Try.underlying9 (by
    intro j hj
    have : j = 0 := by simp at hj; omega
    subst this
    simp only [List.getElem_cons_zero, hm']
    exact (cell_of (heap_new w _)).trans rfl)

theorem slice8 (T : ByteArray) (i : Nat) (W : World) (h : i + 8 ≤ T.size) :
    (Instr.slice 9 (.string T) (some (.int .i64 (i : Int))) (some (.int .i64 ((i : Int) + 8))) none).run Try.prog W = .ok (.string (T.extract i (i + 8))) W := by
  have := run_slice_string (P := Try.prog) (w := W) 9 T .i64 .i64 (i : Int) ((i : Int) + 8) Try.underlying9 (by omega) (by omega) (by omega)
  rw [this, show ((i : Int)).toNat = i by omega, show ((i : Int) + 8).toNat = i + 8 by omega]

theorem bytesN_append (a b : ByteArray) : bytesN (a ++ b) = bytesN a ++ bytesN b := by
  simp [bytesN, ByteArray.data_append]
theorem bytesN_extract (s : ByteArray) (a : Nat) : bytesN (s.extract a (a + 8)) = ((bytesN s).drop a).take 8 := by
  unfold bytesN
  rw [ByteArray.data_extract, Array.toList_extract, List.map_take, List.map_drop]
  simp

/-- The string so far: zeros behind it. -/
def PadR (s : ByteArray) (v : Value) : Prop := ∃ (t : ByteArray) (k : Nat), v = .string t ∧ s.size % 8 + k ≤ 7 ∧ bytesN t = bytesN s ++ List.replicate k 0

def SumR (k0 k1 q : Nat) (l : List Nat) (w : World) (i : Value) (wr : World) : Prop :=
  ∃ k : Nat, 8 * k ≤ l.length ∧ i = .int .i64 ((8 * k : Nat) : Int) ∧ StAt wr q 36 (afterN (beginN k0 k1) l k).a (afterN (beginN k0 k1) l k).b (afterN (beginN k0 k1) l k).c (afterN (beginN k0 k1) l k).d ∧ Chg [] w wr

set_option maxHeartbeats 4000000 in
set_option maxRecDepth 100000 in
theorem rsum_any (k0 k1 : Nat) (s : ByteArray) (r : Nat) (hr : Hid (r = sipN k0 k1 (bytesN s))) (w : World) (h0 : k0 < 18446744073709551616) (h1 : k1 < 18446744073709551616) (hs : s.size ≤ 1000000000) :
    Calls Try.prog 10 #[.int .u64 k0, .int .u64 k1, .string s] w fun e w' => e = .returned (.int .u64 r) ∧ Chg [] w w' := by
  obtain ⟨s0, hs0⟩ : ∃ s, s = beginN k0 k1 := ⟨_, rfl⟩
  have ea : bits .xor .u64 (k0 : Int) 8317987319222330741 = (s0.a : Int) := by rw [hs0]; exact xor_lit k0 8317987319222330741 h0 (by decide)
  have eb : bits .xor .u64 (k1 : Int) 7237128888997146477 = (s0.b : Int) := by rw [hs0]; exact xor_lit k1 7237128888997146477 h1 (by decide)
  have ec : bits .xor .u64 (k0 : Int) 7816392313619706465 = (s0.c : Int) := by rw [hs0]; exact xor_lit k0 7816392313619706465 h0 (by decide)
  have ed : bits .xor .u64 (k1 : Int) 8387220255154660723 = (s0.d : Int) := by rw [hs0]; exact xor_lit k1 8387220255154660723 h1 (by decide)
  have HS0 := Lib.hid hs0
  have PS := pad_sum k0 k1 (bytesN s)
  have HP := Lib.hid PS
  clear hs0 PS
  go_enter Try.func10, Try.ntmps10
  go_wp2
  clear ea eb ec ed
  obtain ⟨q, hq⟩ : ∃ q, q = w.heap.size := ⟨_, rfl⟩
  refine wp_abs ?_
  intro w1 hw1
  have z1 : StAt w1 q 36 s0.a s0.b s0.c s0.d := by rw [hw1, hq]; exact heap_new _ _
  have hC1 : Chg [] w w1 := by rw [hw1]; exact (Chg.refl _ _).alloc _
  rw [← hq]
  have hwq : w.heap.size ≤ q := by omega
  clear hw1 hq
  go_loop [2] (PadR s) (fun v => match v with | .string t => s.size + 20 - t.size | _ => 0)
  case atStart => exact ⟨s, 0, rfl, by omega, by simp⟩
  case round =>
    obtain ⟨t, k, rfl, hk, ht⟩ := hrel
    have htl : t.size = s.size + k := by rw [← bytesN_len, ht]; simp [bytesN_len]
    have HT := Lib.hid ht
    have HTL := Lib.hid htl
    have hts : t.size ≤ 1000000016 := by omega
    obtain ⟨m, hm⟩ : ∃ m, m = s.size % 256 := ⟨_, rfl⟩
    have em : (s.size : Int) % 256 = (m : Int) := by omega
    by_cases h7 : (s.size + k) % 8 = 7
    · have e7 : ((t.size : Int) % 8 != 7) = false := by simp; omega
      have hm256 : m < 256 := by omega
      obtain ⟨U, hU, hcv⟩ := conv_one w1 m hm256 Try.underlying34
      have hUs2 : U.size ≤ 1 := by rw [← bytesN_len, hU]; simp
      have hUs : U.size = 1 := by rw [← bytesN_len, hU]; rfl
      have hpad : bytesN (t ++ U) = padN (bytesN s) := by
        rw [bytesN_append, ht, hU]
        unfold padN
        rw [bytesN_len, ← hm, show 7 - s.size % 8 = k by omega]
      obtain ⟨T, hT⟩ : ∃ T, T = t ++ U := ⟨_, rfl⟩
      have hTs : T.size = 8 * (s.size / 8 + 1) := by rw [hT, ← bytesN_len, hpad, padN_len, bytesN_len]
      have HPAD : Hid (bytesN T = padN (bytesN s)) := Lib.hid (by rw [hT]; exact hpad)
      have hT' : t ++ U = T := hT.symm
      have HTS := Lib.hid hTs
      have hTle : T.size ≤ 1000000016 := by omega
      clear ht htl hm hU hUs hpad hT hTs
      go_wp2_with fail
      obtain ⟨w2, hw2⟩ : ∃ w2, w2 = w1.alloc (.cells #[.int .u8 m] 5) := ⟨_, rfl⟩
      rw [← hw2]
      have z2 : StAt w2 q 36 s0.a s0.b s0.c s0.d := by rw [hw2]; exact heap_old z1
      have hC2 : Chg [] w w2 := by rw [hw2]; exact hC1.alloc _
      clear hw2 hcv hT' z1 hC1 em e7
      go_loopw [9] (SumR k0 k1 q (bytesN T) w) (fun i _ => T.size - (intOf i).toNat)
      case atStart => exact ⟨0, by omega, rfl, by rw [HS0.out] at z2; exact z2, hC2⟩
      case round =>
        clear z2 hC2
        obtain ⟨k, hk, rfl, z, hC⟩ := hrel
        rw [bytesN_len] at hk
        obtain ⟨v, hv⟩ : ∃ v, v = afterN (beginN k0 k1) (bytesN T) k := ⟨_, rfl⟩
        rw [← hv] at z
        have vok : v.ok := by rw [hv]; exact afterN_ok _ _ _ (beginN_ok _ _ h0 h1) (bytesN_lt T)
        by_cases hlt : 8 * k < T.size
        · have hge : 8 * k + 8 ≤ T.size := by have := HTS.out; omega
          obtain ⟨m, hm⟩ : ∃ m, m = blkN (bytesN T) k := ⟨_, rfl⟩
          have lm : m < 18446744073709551616 := by rw [hm]; exact blkN_lt _ _ (bytesN_lt T)
          have HM : Hid (m = wordN (bytesN (T.extract (8 * k) (8 * k + 8)))) := Lib.hid (by rw [bytesN_extract, hm]; rfl)
          have hsz : (T.extract (8 * k) (8 * k + 8)).size = 8 := by rw [ByteArray.size_extract]; omega
          have HSZ := Lib.hid hsz
          obtain ⟨d1, hd1⟩ : ∃ x, x = v.d ^^^ m := ⟨_, rfl⟩
          have ld1 : d1 < 18446744073709551616 := by rw [hd1]; exact xor_lt' vok.2.2.2 lm
          have ed1 := xor_at v.d m d1 vok.2.2.2 lm hd1
          obtain ⟨s1, hs1⟩ : ∃ s, s = roundN ⟨v.a, v.b, v.c, d1⟩ := ⟨_, rfl⟩
          have ok1 : s1.ok := by rw [hs1]; exact roundN_ok _ ⟨vok.1, vok.2.1, vok.2.2.1, ld1⟩
          obtain ⟨s2, hs2⟩ : ∃ s, s = roundN s1 := ⟨_, rfl⟩
          have ok2 : s2.ok := by rw [hs2]; exact roundN_ok _ ok1
          obtain ⟨a3, ha3⟩ : ∃ x, x = s2.a ^^^ m := ⟨_, rfl⟩
          have ea3 := xor_at s2.a m a3 ok2.1 lm ha3
          have FIN : Hid (afterN (beginN k0 k1) (bytesN T) (k + 1) = ⟨a3, s2.b, s2.c, s2.d⟩) := by
            refine Lib.hid ?_
            rw [afterN, ← hv, ← hm]
            unfold takeN
            simp only []
            rw [← hd1, ← hs1, ← hs2, ← ha3]
          have HS1 := Lib.hid hs1
          have HS2 := Lib.hid hs2
          clear hm hsz hd1 hs1 hs2 ha3 hv
          obtain ⟨i, hi⟩ : ∃ i, i = 8 * k := ⟨_, rfl⟩
          have HI := Lib.hid hi
          rw [← hi] at hlt hge HM HSZ ⊢
          have kk0 := z.c0
          have kk1 := z.c1
          have kk2 := z.c2
          have kk3 := z.c3
          have f3 := z.fr 3
          clear hi
          have hsl := fun (W : World) => slice8 T i W hge
          go_wp2_with fail
          refine (number_any _ m HM HSZ.out _).mono ?_
          rintro e w3 ⟨rfl, rfl⟩
          go_wp2_with fail
          refine (rround4 ⟨v.a, v.b, v.c, d1⟩ ⟨vok.1, vok.2.1, vok.2.2.1, ld1⟩ s1 HS1 _).mono ?_
          rintro e v1 ⟨rfl, d1'⟩
          go_wp2_with fail
          refine (rround4 s1 ok1 s2 HS2 _).mono ?_
          rintro e v2 ⟨rfl, d2'⟩
          have hD : Chg [] (wr.setCell ⟨q, 3, none⟩ (.int .u64 d1)) v2 := d1'.trans d2'
          have z4 : StAt v2 q 36 v.a v.b v.c d1 := hD.keep (z.s3 d1) (by simp)
          have hC4 : Chg [] w v2 := (hC.setCell (.inr hwq) _).trans hD
          clear d1' d2' hD kk0 kk1 kk2 kk3 f3 z hC
          have kk0 := z4.c0
          have kk1 := z4.c1
          have kk2 := z4.c2
          have kk3 := z4.c3
          have f0 := z4.fr 0
          have f1 := z4.fr 1
          have f2 := z4.fr 2
          have f3 := z4.fr 3
          go_wp2_with fail
          go_roundw
          case rel =>
            refine ⟨k + 1, by rw [bytesN_len]; have := HI.out; omega, by have := HI.out; rw [show 8 * (k + 1) = i + 8 by omega]; go_num, ?_, ?_⟩
            · rw [FIN.out]
              exact ((((z4.s0 s2.a).s1 s2.b).s2 s2.c).s3 s2.d).s0 a3
            · iterate 5 (refine Chg.setCell ?_ (.inr hwq) _)
              exact hC4
          case measure => simp [intOf] <;> omega
        · have hkn : k = s.size / 8 + 1 := by have := HTS.out; omega
          have hvf : finishN v = r := by
            rw [hr.out, ← HP.out, hv, HPAD.out, hkn, bytesN_len]
          obtain ⟨c1, hc1⟩ : ∃ x, x = v.c ^^^ 255 := ⟨_, rfl⟩
          have lc1 : c1 < 18446744073709551616 := by rw [hc1]; exact xor_lt' vok.2.2.1 (by decide)
          have ec1 : bits .xor .u64 (v.c : Int) 255 = (c1 : Int) := by rw [hc1]; exact xor_lit v.c 255 vok.2.2.1 (by decide)
          obtain ⟨s1, hs1⟩ : ∃ s, s = roundN ⟨v.a, v.b, c1, v.d⟩ := ⟨_, rfl⟩
          have ok1 : s1.ok := by rw [hs1]; exact roundN_ok _ ⟨vok.1, vok.2.1, lc1, vok.2.2.2⟩
          obtain ⟨s2, hs2⟩ : ∃ s, s = roundN s1 := ⟨_, rfl⟩
          have ok2 : s2.ok := by rw [hs2]; exact roundN_ok _ ok1
          obtain ⟨s3, hs3⟩ : ∃ s, s = roundN s2 := ⟨_, rfl⟩
          have ok3 : s3.ok := by rw [hs3]; exact roundN_ok _ ok2
          obtain ⟨s4, hs4⟩ : ∃ s, s = roundN s3 := ⟨_, rfl⟩
          have ok4 : s4.ok := by rw [hs4]; exact roundN_ok _ ok3
          obtain ⟨g1, hg1⟩ : ∃ x, x = s4.a ^^^ s4.b := ⟨_, rfl⟩
          have lg1 : g1 < 18446744073709551616 := by rw [hg1]; exact xor_lt' ok4.1 ok4.2.1
          have eg1 := xor_at s4.a s4.b g1 ok4.1 ok4.2.1 hg1
          obtain ⟨g2, hg2⟩ : ∃ x, x = g1 ^^^ s4.c := ⟨_, rfl⟩
          have lg2 : g2 < 18446744073709551616 := by rw [hg2]; exact xor_lt' lg1 ok4.2.2.1
          have eg2 := xor_at g1 s4.c g2 lg1 ok4.2.2.1 hg2
          obtain ⟨g3, hg3⟩ : ∃ x, x = g2 ^^^ s4.d := ⟨_, rfl⟩
          have eg3 := xor_at g2 s4.d g3 lg2 ok4.2.2.2 hg3
          have FIN : Hid (r = g3) := by
            refine Lib.hid ?_
            rw [← hvf]
            unfold finishN
            simp only []
            rw [← hc1, ← hs1, ← hs2, ← hs3, ← hs4, ← hg1, ← hg2, ← hg3]
          have HS1 := Lib.hid hs1
          have HS2 := Lib.hid hs2
          have HS3 := Lib.hid hs3
          have HS4 := Lib.hid hs4
          have hge : T.size ≤ 8 * k := by omega
          obtain ⟨i, hi⟩ : ∃ i, i = 8 * k := ⟨_, rfl⟩
          rw [← hi] at hge ⊢
          clear hi hlt hc1 hs1 hs2 hs3 hs4 hg1 hg2 hg3 hvf hv hkn hk
          have dge : decide (i < T.size) = false := by simp; omega
          have kk0 := z.c0
          have kk1 := z.c1
          have kk2 := z.c2
          have kk3 := z.c3
          have f2 := z.fr 2
          go_wp2_with fail
          refine (rround4 ⟨v.a, v.b, c1, v.d⟩ ⟨vok.1, vok.2.1, lc1, vok.2.2.2⟩ s1 HS1 _).mono ?_
          rintro e v1 ⟨rfl, d1⟩
          go_wp2_with fail
          refine (rround4 s1 ok1 s2 HS2 _).mono ?_
          rintro e v2 ⟨rfl, d2⟩
          go_wp2_with fail
          refine (rround4 s2 ok2 s3 HS3 _).mono ?_
          rintro e v3 ⟨rfl, d3⟩
          go_wp2_with fail
          refine (rround4 s3 ok3 s4 HS4 _).mono ?_
          rintro e v4 ⟨rfl, d4⟩
          have hD : Chg [] (wr.setCell ⟨q, 2, none⟩ (.int .u64 c1)) v4 := ((d1.trans d2).trans d3).trans d4
          have z4 : StAt v4 q 36 v.a v.b c1 v.d := hD.keep (z.s2 c1) (by simp)
          have hC4 : Chg [] w v4 := (hC.setCell (.inr hwq) _).trans hD
          clear d1 d2 d3 d4 hD kk0 kk1 kk2 kk3 f2 z hC
          have kk0 := z4.c0
          have kk1 := z4.c1
          have kk2 := z4.c2
          have kk3 := z4.c3
          have f0 := z4.fr 0
          have f1 := z4.fr 1
          have f2 := z4.fr 2
          have f3 := z4.fr 3
          go_wp2_with fail
          go_ret
          refine ⟨by rw [FIN.out]; rfl, ?_⟩
          iterate 4 (refine Chg.setCell ?_ (.inr hwq) _)
          exact hC4
    · have e7 : ((t.size : Int) % 8 != 7) = true := by simp; omega
      clear ht htl hm
      go_wp2_with fail
      go_round
      case rel => exact ⟨_, k + 1, rfl, by omega, by rw [bytesN_append, HT.out, List.append_assoc, List.replicate_succ']; rfl⟩
      case measure =>
        have := HTL.out
        show s.size + 20 - (t ++ ⟨#[0]⟩ : ByteArray).size < s.size + 20 - t.size
        rw [ByteArray.size_append, show (⟨#[0]⟩ : ByteArray).size = 1 from rfl]
        omega

end Go.Proofs.Ythaikobmelalgaa
