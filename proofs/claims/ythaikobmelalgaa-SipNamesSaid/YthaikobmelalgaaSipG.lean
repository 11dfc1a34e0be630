/- The walks of package sip and of its document: Sum. -/
import Derived.Test.YthaikobmelalgaaSipF
namespace Go.Proofs.Ythaikobmelalgaa
open Go.RowKit

theorem sum_any (b k0 k1 : Nat) (l : List Nat) (w : World) (h : HashAt w b k0 k1 l) (hl : l.length ≤ 4000000000) :
    Calls Try.prog 13 #[.pointer (some ⟨b, 0, none⟩)] w fun e w' => e = .returned (.int .u64 (sipN k0 k1 l : Nat)) ∧ Chg [] w w' := by
  obtain ⟨h0, h1, hb, v, hv, hva, hraw⟩ := h
  refine (sum_raw b k0 k1 v _ l.length w hraw h0 h1 hv (restN_lt l hb) hl).mono ?_
  rintro e w' ⟨rfl, hc⟩
  refine ⟨?_, hc⟩
  have : beforeN k0 k1 v l.length 7 = afterN (beginN k0 k1) l (l.length / 8) := by
    unfold beforeN
    by_cases h7 : l.length ≤ 7
    · rw [if_pos h7, show l.length / 8 = 0 by omega]; rfl
    · rw [if_neg h7]; exact hva (by omega)
  rw [this]
  rfl

theorem len_any (b k0 k1 : Nat) (l : List Nat) (w : World) (h : HashAt w b k0 k1 l) :
    Calls Try.prog 14 #[.pointer (some ⟨b, 0, none⟩)] w fun e w' => e = .returned (.int .i64 l.length) ∧ w = w' := by
  obtain ⟨h0, h1, hb, v, hv, hva, hraw⟩ := h
  exact len_raw b k0 k1 _ v _ w hraw

theorem copy_any (b k0 k1 : Nat) (l : List Nat) (w : World) (h : HashAt w b k0 k1 l) :
    Calls Try.prog 15 #[.pointer (some ⟨b, 0, none⟩)] w fun e w' => e = .returned (.pointer (some ⟨w.heap.size, 0, none⟩)) ∧ HashAt w' w.heap.size k0 k1 l ∧ HashAt w' b k0 k1 l ∧ Chg [] w w' := by
  have h' := h
  obtain ⟨h0, h1, hb, v, hv, hva, hraw⟩ := h
  refine (copy_raw b k0 k1 _ v _ w hraw).mono ?_
  rintro e w' ⟨rfl, hr, hc⟩
  exact ⟨rfl, ⟨h0, h1, hb, v, hv, hva, hr⟩, h'.chg hc (by simp), hc⟩

theorem make_any (k0 k1 : Nat) (w : World) (h0 : k0 < 18446744073709551616) (h1 : k1 < 18446744073709551616) :
    Calls Try.prog 11 #[.int .u64 k0, .int .u64 k1] w fun e w' => e = .returned (.pointer (some ⟨w.heap.size, 0, none⟩)) ∧ HashAt w' w.heap.size k0 k1 [] ∧ Chg [] w w' := by
  refine (new_any k0 k1 w).mono ?_
  rintro e w' ⟨rfl, hr, hc⟩
  exact ⟨rfl, hash_new hr h0 h1, hc⟩

theorem total_any (k0 k1 : Nat) (s : ByteArray) (r : Nat) (hr : Hid (r = sipN k0 k1 (bytesN s))) (w : World) (h0 : k0 < 18446744073709551616) (h1 : k1 < 18446744073709551616) (hs : s.size ≤ 1000000000) :
    Calls Try.prog 9 #[.int .u64 k0, .int .u64 k1, .string s] w fun e w' => e = .returned (.int .u64 r) ∧ Chg [] w w' := by
  rw [hr.out]
  go_enter Try.func9, Try.ntmps9
  go_wp2_with fail
  refine (make_any k0 k1 _ h0 h1).mono ?_
  rintro e w1 ⟨rfl, h2, hc1⟩
  go_wp2_with fail
  refine (write_any _ k0 k1 [] s _ h2 (by simp) hs).mono ?_
  rintro e w2 ⟨rfl, h3, hc2⟩
  go_wp2_with fail
  refine (sum_any _ k0 k1 _ _ h3 (by simp [bytesN_len]; omega)).mono ?_
  rintro e w3 ⟨rfl, hc3⟩
  go_wp2
  go_ret
  exact ⟨rfl, (hc1.trans_new hc2 (by simp)).trans hc3⟩

def exS : ByteArray := ⟨#[0, 1, 2, 3, 4, 5, 6, 7, 8, 9, 10, 11, 12, 13, 14]⟩

set_option maxRecDepth 100000 in
theorem awake_any (w : World) : Calls Try.prog 8 #[] w fun e w' => e = .returned (.bool true) ∧ Chg [] w w' := by
  have e0 : Hid (8246050544436514353 = sipN 506097522914230528 1084818905618843912 (bytesN ⟨#[]⟩)) := Lib.hid (by decide +kernel)
  have e1 : Hid (8428550223375919101 = sipN 506097522914230528 1084818905618843912 (bytesN ((⟨#[0, 1, 2, 3, 4, 5, 6, 7, 8, 9, 10, 11, 12, 13, 14]⟩ : ByteArray).extract 0 1))) := Lib.hid (by decide +kernel)
  have e2 : Hid (967288799772626778 = sipN 506097522914230528 1084818905618843912 (bytesN ((⟨#[0, 1, 2, 3, 4, 5, 6, 7, 8, 9, 10, 11, 12, 13, 14]⟩ : ByteArray).extract 0 2))) := Lib.hid (by decide +kernel)
  have e3 : Hid (10661697595502699618 = sipN 506097522914230528 1084818905618843912 (bytesN ((⟨#[0, 1, 2, 3, 4, 5, 6, 7, 8, 9, 10, 11, 12, 13, 14]⟩ : ByteArray).extract 0 8))) := Lib.hid (by decide +kernel)
  have e4 : Hid (11613035633349379557 = sipN 506097522914230528 1084818905618843912 (bytesN (⟨#[0, 1, 2, 3, 4, 5, 6, 7, 8, 9, 10, 11, 12, 13, 14]⟩ : ByteArray))) := Lib.hid (by decide +kernel)
  go_enter Try.func8, Try.ntmps8
  go_wp2_with fail
  refine (total_any 506097522914230528 1084818905618843912 ⟨#[]⟩ _ e0 _ (by decide) (by decide) (by decide)).mono ?_
  rintro e w1 ⟨rfl, hc1⟩
  go_wp2_with fail
  refine (total_any 506097522914230528 1084818905618843912 ((⟨#[0, 1, 2, 3, 4, 5, 6, 7, 8, 9, 10, 11, 12, 13, 14]⟩ : ByteArray).extract 0 1) _ e1 _ (by decide) (by decide) (by decide)).mono ?_
  rintro e w2 ⟨rfl, hc2⟩
  go_wp2_with fail
  refine (total_any 506097522914230528 1084818905618843912 ((⟨#[0, 1, 2, 3, 4, 5, 6, 7, 8, 9, 10, 11, 12, 13, 14]⟩ : ByteArray).extract 0 2) _ e2 _ (by decide) (by decide) (by decide)).mono ?_
  rintro e w3 ⟨rfl, hc3⟩
  go_wp2_with fail
  refine (total_any 506097522914230528 1084818905618843912 ((⟨#[0, 1, 2, 3, 4, 5, 6, 7, 8, 9, 10, 11, 12, 13, 14]⟩ : ByteArray).extract 0 8) _ e3 _ (by decide) (by decide) (by decide)).mono ?_
  rintro e w4 ⟨rfl, hc4⟩
  go_wp2_with fail
  refine (total_any 506097522914230528 1084818905618843912 (⟨#[0, 1, 2, 3, 4, 5, 6, 7, 8, 9, 10, 11, 12, 13, 14]⟩ : ByteArray) _ e4 _ (by decide) (by decide) (by decide)).mono ?_
  rintro e w5 ⟨rfl, hc5⟩
  go_wp2
  go_ret
  exact ⟨rfl, (((hc1.trans hc2).trans hc3).trans hc4).trans hc5⟩

theorem rround4 (s : St) (hs : s.ok) (t : St) (ht : Hid (t = roundN s)) (w : World) :
    Calls Try.prog 18 #[.agg #[.int .u64 s.a, .int .u64 s.b, .int .u64 s.c, .int .u64 s.d]] w fun e w' => e = .returned (.agg #[.int .u64 t.a, .int .u64 t.b, .int .u64 t.c, .int .u64 t.d]) ∧ Chg [] w w' :=
  (rround_any s.a s.b s.c s.d hs.1 hs.2.1 hs.2.2.1 hs.2.2.2 w).mono fun e w' h => ⟨by rw [ht.out]; exact h.1, h.2⟩

theorem number_any (s : ByteArray) (m : Nat) (hm : Hid (m = wordN (bytesN s))) (hs : s.size = 8) (w : World) :
    Calls Try.prog 17 #[.string s] w fun e w' => e = .returned (.int .u64 m) ∧ w = w' := by
  rw [hm.out]
  have hl : (bytesN s).length = 8 := by rw [bytesN_len, hs]
  obtain ⟨l, hl2⟩ : ∃ l, l = bytesN s := ⟨_, rfl⟩
  have hb : ∀ x ∈ l, x < 256 := by rw [hl2]; exact bytesN_lt s
  have hk2 : ∀ k, (h : k < s.size) → ∃ x : Nat, x < 256 ∧ s[k].toNat = x ∧ wordN (l.drop k) = wordN (l.drop (k + 1)) * 256 + x := by
    intro k hk
    have hk' : k < l.length := by rw [hl2, bytesN_len]; exact hk
    have e : l[k] = s[k].toNat := by simp only [hl2, bytesN, List.getElem_map]; rfl
    exact ⟨l[k], hb _ (List.getElem_mem hk'), e.symm, wordN_drop l k hk'⟩
  rw [← hl2] at hl ⊢
  have hwl : ∀ k, wordN (l.drop k) < 18446744073709551616 := by
    intro k
    have h1 := wordN_lt (l.drop k) fun x hx => hb x (List.mem_of_mem_drop hx)
    have h2 : (l.drop k).length ≤ 8 := by simp; omega
    exact Nat.lt_of_lt_of_le h1 (Nat.le_trans (Nat.pow_le_pow_right (by decide) h2) (by decide))
  have HK := Lib.hid hk2
  have HW := Lib.hid hwl
  have HS := Lib.hid hs
  have hs8 : 8 ≤ s.size := by omega
  clear hl2 hk2 hwl hm hs
  go_enter Try.func17, Try.ntmps17
  go_wp2
  go_loop [3, 4] (takeRel l) (fun _ i => (intOf i + 1).toNat)
  case atStart => exact ⟨8, Nat.le_refl _, rfl, by rw [List.drop_of_length_le (by omega)]; rfl⟩
  case round =>
    obtain ⟨k, hk, rfl, rfl⟩ := hrel
    cases k with
    | zero =>
      rw [List.drop_zero]
      go_wp2
      go_ret
      exact ⟨rfl, rfl⟩
    | succ k =>
      have hks : k < s.size := by omega
      obtain ⟨x, hx, hcx, hwx⟩ := HK.out k hks
      obtain ⟨y, hy⟩ : ∃ y, y = wordN (l.drop (k + 1)) := ⟨_, rfl⟩
      have hlt := HW.out k
      rw [hwx, ← hy] at hlt
      rw [← hy] at hwx ⊢
      have HY := Lib.hid hwx
      have t1 : ((k + 1 : Nat) : Int) - 1 = (k : Int) := by omega
      have hy2 : y * 256 < 18446744073709551616 := Nat.lt_of_le_of_lt (Nat.le_add_right _ _) hlt
      rw [t1]
      clear hwx hy t1
      go_wp2_with fail
      go_round
      case rel => exact ⟨k, by omega, by go_num, by rw [HY.out]; go_num⟩
      case measure => simp [intOf] <;> omega

end Go.Proofs.Ythaikobmelalgaa
