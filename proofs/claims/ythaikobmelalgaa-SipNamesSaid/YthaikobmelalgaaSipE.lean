/- The walks of package sip: Write, Sum. -/
import Derived.Test.YthaikobmelalgaaSipD
namespace Go.Proofs.Ythaikobmelalgaa
open Go.RowKit

/-- The bytes of a string, as numbers. -/
def bytesN (s : ByteArray) : List Nat := s.data.toList.map (·.toNat)
theorem bytesN_len (s : ByteArray) : (bytesN s).length = s.size := by simp [bytesN]
theorem bytesN_lt (s : ByteArray) : ∀ x ∈ bytesN s, x < 256 := by
  intro x hx
  simp only [bytesN, List.mem_map] at hx
  obtain ⟨y, _, rfl⟩ := hx
  exact y.toNat_lt
theorem bytesN_take (s : ByteArray) (k : Nat) (h : k < s.size) : (bytesN s).take (k + 1) = (bytesN s).take k ++ [s[k].toNat] := by
  rw [List.take_succ_eq_append_getElem (by rw [bytesN_len]; exact h)]
  congr 2
  simp only [bytesN, List.getElem_map]
  rfl

/-- The block b holds the hash of the bytes l. -/
def HashAt (w : World) (b k0 k1 : Nat) (l : List Nat) : Prop :=
  k0 < 18446744073709551616 ∧ k1 < 18446744073709551616 ∧ (∀ x ∈ l, x < 256) ∧ ∃ v : St, v.ok ∧ (8 ≤ l.length → v = afterN (beginN k0 k1) l (l.length / 8)) ∧ RawH w b k0 k1 v (restN l) l.length

theorem HashAt.chg {w w' : World} {S : List Nat} {b k0 k1 : Nat} {l : List Nat} (h : HashAt w b k0 k1 l) (hc : Chg S w w') (hb : b ∉ S) : HashAt w' b k0 k1 l := by
  obtain ⟨h0, h1, h2, v, h3, h4, h5⟩ := h
  exact ⟨h0, h1, h2, v, h3, h4, h5.chg hc hb⟩
theorem HashAt.lt {w : World} {b k0 k1 : Nat} {l : List Nat} (h : HashAt w b k0 k1 l) : b < w.heap.size := by
  obtain ⟨_, _, _, _, _, _, h5⟩ := h
  exact h5.lt
theorem hash_new {w : World} {b k0 k1 : Nat} (h : RawH w b k0 k1 zst (List.replicate 8 0) 0) (h0 : k0 < 18446744073709551616) (h1 : k1 < 18446744073709551616) : HashAt w b k0 k1 [] :=
  ⟨h0, h1, by simp, zst, ⟨by decide, by decide, by decide, by decide⟩, by simp, h⟩

theorem take8 (s : St) (hs : s.ok) (x0 x1 x2 x3 x4 x5 x6 x7 : Nat) (hb : ∀ x ∈ [x0, x1, x2, x3, x4, x5, x6, x7], x < 256) (t : St) (ht : Hid (t = takeN s (wordN [x0, x1, x2, x3, x4, x5, x6, x7]))) (w : World) :
    Calls Try.prog 20 #[.agg #[.int .u64 s.a, .int .u64 s.b, .int .u64 s.c, .int .u64 s.d], .agg #[.int .u8 x0, .int .u8 x1, .int .u8 x2, .int .u8 x3, .int .u8 x4, .int .u8 x5, .int .u8 x6, .int .u8 x7]] w fun e w' => e = .returned (.agg #[.int .u64 t.a, .int .u64 t.b, .int .u64 t.c, .int .u64 t.d]) ∧ Chg [] w w' :=
  (take_any s hs [x0, x1, x2, x3, x4, x5, x6, x7] rfl hb w).mono fun e w' h => ⟨by rw [ht.out]; exact h.1, h.2⟩

theorem before_lit (b k0 k1 n most : Nat) (c : Int) (v : St) (r : List Nat) (u : St) (hu : Hid (u = beforeN k0 k1 v n most)) (hc : c = most) (h0 : k0 < 18446744073709551616) (h1 : k1 < 18446744073709551616) (w : World) (h : RawH w b k0 k1 v r n) :
    Calls Try.prog 19 #[.pointer (some ⟨b, 0, none⟩), .int .i64 c] w fun e w' => e = .returned (.agg #[.int .u64 u.a, .int .u64 u.b, .int .u64 u.c, .int .u64 u.d]) ∧ Chg [] w w' := by
  subst hc
  exact (before_any b k0 k1 n most v r w h h0 h1).mono fun e w' h => ⟨by rw [hu.out]; exact h.1, h.2⟩

theorem len8 (r : List Nat) (h : r.length = 8) : ∃ x0 x1 x2 x3 x4 x5 x6 x7, r = [x0, x1, x2, x3, x4, x5, x6, x7] := by
  match r, h with
  | [x0, x1, x2, x3, x4, x5, x6, x7], _ => exact ⟨_, _, _, _, _, _, _, _, rfl⟩

theorem rest8 {w : World} {b k0 k1 n x0 x1 x2 x3 x4 x5 x6 x7 : Nat} {v : St} (r1 : RawH w b k0 k1 v [x0, x1, x2, x3, x4, x5, x6, x7] n) : w.cell? ⟨b, 6, none⟩ = some (.int .u8 x0) ∧ w.cell? ⟨b, 7, none⟩ = some (.int .u8 x1) ∧ w.cell? ⟨b, 8, none⟩ = some (.int .u8 x2) ∧ w.cell? ⟨b, 9, none⟩ = some (.int .u8 x3) ∧ w.cell? ⟨b, 10, none⟩ = some (.int .u8 x4) ∧ w.cell? ⟨b, 11, none⟩ = some (.int .u8 x5) ∧ w.cell? ⟨b, 12, none⟩ = some (.int .u8 x6) ∧ w.cell? ⟨b, 13, none⟩ = some (.int .u8 x7) :=
  ⟨r1.cr 0 (by decide), r1.cr 1 (by decide), r1.cr 2 (by decide), r1.cr 3 (by decide), r1.cr 4 (by decide), r1.cr 5 (by decide), r1.cr 6 (by decide), r1.cr 7 (by decide)⟩

def WriteR (b k0 k1 : Nat) (l m : List Nat) (w : World) (i : Value) (wr : World) : Prop :=
  ∃ k : Nat, k ≤ m.length ∧ i = .int .i64 k ∧ HashAt wr b k0 k1 (l ++ m.take k) ∧ Chg [b] w wr

theorem write_nil (s : ByteArray) (w : World) :
    Calls Try.prog 12 #[.pointer none, .string s] w fun e w' => e = .returned (.int .i64 2) ∧ w = w' := by
  go_enter Try.func12, Try.ntmps12
  go_wp2
  go_ret
  exact ⟨rfl, rfl⟩

set_option maxHeartbeats 4000000 in
theorem write_any (b k0 k1 : Nat) (l : List Nat) (s : ByteArray) (w : World) (h : HashAt w b k0 k1 l) (hl : l.length ≤ 1000000000) (hs : s.size ≤ 1000000000) :
    Calls Try.prog 12 #[.pointer (some ⟨b, 0, none⟩), .string s] w fun e w' => e = .returned (.int .i64 0) ∧ HashAt w' b k0 k1 (l ++ bytesN s) ∧ Chg [b] w w' := by
  go_enter Try.func12, Try.ntmps12
  go_wp2
  go_loopw [10] (WriteR b k0 k1 l (bytesN s) w) (fun i _ => s.size - (intOf i).toNat)
  case atStart => exact ⟨0, Nat.zero_le _, rfl, by simpa using h, Chg.refl _ _⟩
  case round =>
    clear h
    obtain ⟨k, hk, rfl, hh, hC⟩ := hrel
    rw [bytesN_len] at hk
    by_cases hlt : k < s.size
    · obtain ⟨m, hm⟩ : ∃ m, m = l ++ (bytesN s).take k := ⟨_, rfl⟩
      have hm2 : l ++ (bytesN s).take (k + 1) = m ++ [s[k].toNat] := by rw [bytesN_take s k hlt, hm, List.append_assoc]
      have hml : m.length = l.length + k := by rw [hm]; simp [bytesN_len]; omega
      rw [← hm] at hh
      obtain ⟨x, hx⟩ : ∃ x, x = s[k].toNat := ⟨_, rfl⟩
      have hx2 : x < 256 := by rw [hx]; exact UInt8.toNat_lt _
      rw [← hx] at hm2
      have HM := Lib.hid hm2
      obtain ⟨hk0, hk1, hmb, v, hv, hva, hraw⟩ := hh
      obtain ⟨n, hn⟩ : ∃ n, n = m.length := ⟨_, rfl⟩
      rw [← hn] at hraw
      have hn2 : n ≤ 2000000000 := by omega
      obtain ⟨j, hj⟩ : ∃ j, j = n % 8 := ⟨_, rfl⟩
      have hj8 : j < 8 := by omega
      have cr := hraw.cr j hj8
      have ct := hraw.ct
      have fr := hraw.fr
      have HMB := Lib.hid hmb
      have HVA := Lib.hid hva
      have HN := Lib.hid hn
      have HJ := Lib.hid hj
      have em : (n : Int).tmod 8 = (j : Int) := by rw [Int.tmod_eq_emod_of_nonneg (by omega)]; omega
      have hji : (j : Int) < 8 := by omega
      have hji0 : (0 : Int) ≤ (j : Int) := by omega
      have hx' : s[k].toNat = x := hx.symm
      have hx2' : x < 256 := hx2
      by_cases hj7 : j = 7
      · subst hj7
        have em2 : ((n : Int) + 1) % 8 = 0 := by omega
        clear hm hm2 hmb hva hn hj hx
        go_wp2_with fail
        refine region_tail 12 (by kernel_rfl) (by kernel_rfl) ?_
        intro v0 hv0
        have r0 : RawH v0 b k0 k1 v (restN m) n := by rw [hv0]; exact hraw
        have hC0 : Chg [b] w v0 := by rw [hv0]; exact hC.drew
        clear hv0 hraw hC cr ct fr
        have cr := r0.cr 7 (by decide)
        have ct := r0.ct
        have fr := r0.fr 13
        have fr2 := r0.fr 14
        simp only [List.take_succ_cons, List.take_zero, List.drop_succ_cons, List.drop_zero]
        repeat still_step
        refine wpStill_nil ?_
        go_upto_region 9 with (fail)
        refine wp_abs ?_
        intro w1 hw1
        have r1 : RawH w1 b k0 k1 v ((restN m).set 7 x) (n + 1) := by rw [hw1]; exact (r0.setR 7 x (by decide)).setT (n + 1)
        have hC1 : Chg [b] w w1 := by rw [hw1]; exact (hC0.setCell (.inl (by simp)) _).setCell (.inl (by simp)) _
        clear hw1 r0 hC0 cr ct fr fr2
        have hr8 : ∀ y ∈ (restN m).set 7 x, y < 256 := by
          intro y hy
          rcases List.mem_or_eq_of_mem_set hy with hy | rfl
          · exact restN_lt m HMB.out y hy
          · exact hx2
        obtain ⟨x0, x1, x2, x3, x4, x5, x6, x7, hr⟩ := len8 _ r1.1
        have HR := Lib.hid hr
        rw [hr] at r1 hr8
        have HR8 := Lib.hid hr8
        clear hr hr8
        obtain ⟨u, hu⟩ : ∃ u, u = beforeN k0 k1 v (n + 1) 8 := ⟨_, rfl⟩
        have uok : u.ok := by rw [hu]; unfold beforeN; split; exact beginN_ok _ _ hk0 hk1; exact hv
        obtain ⟨t, ht⟩ : ∃ t, t = takeN u (wordN [x0, x1, x2, x3, x4, x5, x6, x7]) := ⟨_, rfl⟩
        have tok : t.ok := by rw [ht]; exact takeN_ok _ _ uok (word8_lt _ rfl HR8.out)
        have HU := Lib.hid hu
        have HT := Lib.hid ht
        clear hu ht
        have HS1 := Lib.hid (rest8 r1)
        go_region_held3 (fun w1 => w1.cell? ⟨b, 6, none⟩ = some (.int .u8 x0) ∧ w1.cell? ⟨b, 7, none⟩ = some (.int .u8 x1) ∧ w1.cell? ⟨b, 8, none⟩ = some (.int .u8 x2) ∧ w1.cell? ⟨b, 9, none⟩ = some (.int .u8 x3) ∧ w1.cell? ⟨b, 10, none⟩ = some (.int .u8 x4) ∧ w1.cell? ⟨b, 11, none⟩ = some (.int .u8 x5) ∧ w1.cell? ⟨b, 12, none⟩ = some (.int .u8 x6) ∧ w1.cell? ⟨b, 13, none⟩ = some (.int .u8 x7)) (first | (with_reducible exact HS4.out) | (with_reducible exact HS3.out) | (with_reducible exact HS2.out) | (with_reducible exact HS1.out) | exact HS1.out) (first | (go_at_call 19; go_must (refine (before_lit b k0 k1 (n + 1) 8 8 v [x0, x1, x2, x3, x4, x5, x6, x7] u HU rfl hk0 hk1 _ ?_).mono ?_; exact r1; rintro e9 w2 ⟨rfl, hc2⟩); replace hc2 := hc2.undrew; have r2 := r1.chg hc2 (by simp); have HS2 := Lib.hid (rest8 r2) ) | (go_at_call 20; refine (take8 u uok x0 x1 x2 x3 x4 x5 x6 x7 HR8.out t HT _).mono ?_; rintro e9 w3 ⟨rfl, hc3⟩; have r3 := r2.chg hc3 (by simp); have n2 := r3.c2; have n3 := r3.c3; have n4 := r3.c4; have n5 := r3.c5; have f2 := r3.fr 2; have f3 := r3.fr 3; have f4 := r3.fr 4; have f5 := r3.fr 5; have HS3 := Lib.hid (rest8 r3); have r4 := r3.setS t; have HS4 := Lib.hid (rest8 r4) ) )
        clear n2 n3 n4 n5 f2 f3 f4 f5
        have z6 := r4.fr 6
        have z7 := r4.fr 7
        have z8 := r4.fr 8
        have z9 := r4.fr 9
        have z10 := r4.fr 10
        have z11 := r4.fr 11
        have z12 := r4.fr 12
        have z13 := r4.fr 13
        obtain ⟨y6, y7, y8, y9, y10, y11, y12, y13⟩ := HS4.out
        go_wp2_with fail
        go_roundw
        case rel =>
          have r5 := (((((((r4.setR 0 0 (by decide)).setR 1 0 (by decide)).setR 2 0 (by decide)).setR 3 0 (by decide)).setR 4 0 (by decide)).setR 5 0 (by decide)).setR 6 0 (by decide)).setR 7 0 (by decide)
          refine ⟨k + 1, by rw [bytesN_len]; omega, by go_num, ?_, ?_⟩
          · rw [HM.out]
            have e1 := HN.out
            have e2 := HJ.out
            obtain ⟨f1, f2, f3⟩ := restN_full m x (by omega)
            refine ⟨hk0, hk1, ?_, t, tok, ?_, ?_⟩
            · intro y hy
              rcases List.mem_append.1 hy with hy | hy
              · exact HMB.out y hy
              · simp at hy; omega
            · intro _
              rw [f3, afterN, afterN_append _ _ _ _ (by omega), ← f1, HR.out, HT.out]
              congr 1
              rw [HU.out]
              unfold beforeN
              by_cases h8 : n + 1 ≤ 8
              · rw [if_pos h8, show m.length / 8 = 0 by omega]; rfl
              · rw [if_neg h8]; exact HVA.out (by omega)
            · rw [f2, show (m ++ [x]).length = n + 1 by simp; omega]
              exact r5
          · have hC3 : Chg [b] w w3 := (hC1.trans (hc2.mono (by simp))).trans (hc3.mono (by simp))
            iterate 12 (refine Chg.setCell ?_ (.inl (by simp)) _)
            exact hC3
        case measure => simp [intOf] <;> omega
      have em2 : ((n : Int) + 1) % 8 = (j : Int) + 1 := by omega
      have em3 : ((j : Int) + 1 == 0) = false := by simp; omega
      clear hm hm2 hmb hva hn hj hx
      go_wp2_with fail
      refine region_tail 12 (by kernel_rfl) (by kernel_rfl) ?_
      intro v0 hv0
      have r0 : RawH v0 b k0 k1 v (restN m) n := by rw [hv0]; exact hraw
      have hC0 : Chg [b] w v0 := by rw [hv0]; exact hC.drew
      clear hv0 hraw hC cr ct fr
      have cr := r0.cr j hj8
      have ct := r0.ct
      have fr := r0.fr (6 + j)
      have fr2 := r0.fr 14
      simp only [List.take_succ_cons, List.take_zero, List.drop_succ_cons, List.drop_zero]
      repeat still_step
      refine wpStill_nil ?_
      go_wp2_with fail
      go_roundw
      case rel =>
        refine ⟨k + 1, by rw [bytesN_len]; omega, by go_num, ?_, (hC0.setCell (.inl (by simp)) _).setCell (.inl (by simp)) _⟩
        rw [HM.out]
        have e1 := HN.out
        have e2 := HJ.out
        refine ⟨hk0, hk1, ?_, v, hv, ?_, ?_⟩
        · intro y hy
          rcases List.mem_append.1 hy with hy | hy
          · exact HMB.out y hy
          · simp at hy; omega
        · intro h8
          have hl8 : (m ++ [x]).length = n + 1 := by simp; omega
          have e3 : (n + 1) / 8 = m.length / 8 := by omega
          rw [hl8, e3, afterN_append _ _ _ _ (by omega)]
          exact HVA.out (by omega)
        · rw [restN_more m x (by omega), ← e1, ← e2, show (m ++ [x]).length = n + 1 by simp; omega]
          exact (r0.setR j x hj8).setT (n + 1)
      case measure => simp [intOf] <;> omega
    · have hk2 : k = s.size := by omega
      subst hk2
      rw [List.take_of_length_le (by rw [bytesN_len]; omega)] at hh
      go_wp2_with fail
      go_ret
      exact ⟨rfl, hh, hC⟩

end Go.Proofs.Ythaikobmelalgaa
