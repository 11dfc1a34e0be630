/- The walk of alike: a book held against the document's. -/
import Derived.Test.YtjcciojbljlloaaRefB
import Derived.Test.YtjcciojbljlloaaRepPl2
import Derived.Test.YtjcciojbljlloaaOver
import Derived.Deep.RegionHeld3
namespace Go.Proofs.Ytjcciojbljlloaa
open Go.RowKit

theorem due_v (b r L R : Nat) (us : List Up) (w : World) (h : Book w b r L R us) (t : Nat) (f : Bool) (hd : Hid (dueN us = (t, f))) :
    Calls Try.prog 20 #[.pointer (some ⟨b, 0, none⟩)] w fun e w' => e = .returned (.tuple #[.int .i64 t, .bool f]) ∧ Chg [] w w' := by
  refine (due_any b r L R us w h).mono ?_
  rintro e w' ⟨rfl, hc⟩
  rw [hd.out]
  exact ⟨rfl, hc⟩

theorem of_out (b r L R : Nat) (us : List Up) (u : Int) (w : World) (hu : hasB us u = false) (h : Book w b r L R us) :
    Calls Try.prog 16 #[.pointer (some ⟨b, 0, none⟩), .int .i64 u] w fun e w' => e = .returned (.agg #[.int .i64 0, .int .i64 0, .int .i64 0, .int .i64 0, .bool false, .bool false, .int .i64 0]) ∧ Chg [] w w' :=
  of_any b r L R us u noUp (Lib.hid (by unfold tellB; rw [getB_out hu]; rfl)) w h
theorem has_neg (us : List Up) : hasB us (-1) = false := by simp [hasB]
theorem has_len (us : List Up) : hasB us us.length = false := by simp [hasB]

/-- Both books, alike. -/
structure Both (w : World) (b r q s L R : Nat) (us : List Up) : Prop where
  l : Book w b r L R us
  x : RBook w q s L R us
theorem Both.chg {w w' : World} {b r q s L R : Nat} {us : List Up} (h : Both w b r q s L R us) (hc : Chg [] w w') : Both w' b r q s L R us :=
  ⟨h.l.chg hc (by simp) (by simp), h.x.chg hc (by simp) (by simp)⟩

def AlkR (b r q s L R : Nat) (us : List Up) (w : World) (i : Value) (wr : World) : Prop :=
  ∃ j : Nat, j ≤ us.length ∧ i = .int .i64 j ∧ Both wr b r q s L R us ∧ Chg [] w wr
theorem Both.to {w w' : World} {S : List Nat} {b r q s L R : Nat} {us : List Up} (h : Both w b r q s L R us) (hc : Chg S w w') (h1 : b ∉ S) (h2 : r ∉ S) (h3 : q ∉ S) (h4 : s ∉ S) : Both w' b r q s L R us :=
  ⟨h.l.chg hc h1 h2, h.x.chg hc h3 h4⟩
def AlkM (base : Nat) (a : Option Addr) (n c b r q s L R : Nat) (us : List Up) (w : World) (i : Value) (wr : World) : Prop :=
  ∃ j : Nat, j ≤ n ∧ i = .int .i64 j ∧ RowAny base wr (.slice a n c) n ∧ Both wr b r q s L R us ∧ Chg [] w wr

/-- The seven cells of one that lies in a block of its own. -/
def Cells7 (w : World) (g : Nat) (p : Up) : Prop := w.cell? ⟨g, 0, none⟩ = some (.int .i64 p.score) ∧ w.cell? ⟨g, 1, none⟩ = some (.int .i64 p.agree) ∧ w.cell? ⟨g, 2, none⟩ = some (.int .i64 p.dissent) ∧ w.cell? ⟨g, 3, none⟩ = some (.int .i64 p.silent) ∧ w.cell? ⟨g, 4, none⟩ = some (.bool p.rests) ∧ w.cell? ⟨g, 5, none⟩ = some (.bool p.trial) ∧ w.cell? ⟨g, 6, none⟩ = some (.int .i64 p.til)
theorem Cells7.chg {w w' : World} {g : Nat} {p : Up} (h : Cells7 w g p) (hc : Chg [] w w') : Cells7 w' g p :=
  ⟨hc.cell h.1 (by simp), hc.cell h.2.1 (by simp), hc.cell h.2.2.1 (by simp), hc.cell h.2.2.2.1 (by simp), hc.cell h.2.2.2.2.1 (by simp), hc.cell h.2.2.2.2.2.1 (by simp), hc.cell h.2.2.2.2.2.2 (by simp)⟩

set_option maxRecDepth 100000 in
set_option maxHeartbeats 4000000 in
theorem alike_any (b r q s L R : Nat) (us : List Up) (w : World) (h : Both w b r q s L R us) :
    Calls Try.prog 34 #[.pointer (some ⟨b, 0, none⟩), .pointer (some ⟨q, 0, none⟩)] w fun e w' => e = .returned (.bool true) ∧ Chg [] w w' := by
  have hlen := h.l.len
  obtain ⟨dt, df, hd⟩ : ∃ dt df, dueN us = (dt, df) := ⟨_, _, rfl⟩
  have HD := Lib.hid hd
  obtain ⟨ml, hml⟩ : ∃ ml, mayN us = ml := ⟨_, rfl⟩
  have hmlen : ml.length ≤ 9 := by rw [← hml]; exact Nat.le_trans (idxN_len _ _ _) hlen
  have HML := Lib.hid hml
  clear hd hml
  go_enter Try.func34, Try.ntmps34
  go_wp2_with fail
  go_loopw [5] (AlkR b r q s L R us w) (fun i _ => us.length - (intOf i).toNat)
  case atStart => exact ⟨0, Nat.zero_le _, rfl, h, Chg.refl _ _⟩
  case round =>
    clear h
    obtain ⟨j, hj, rfl, h, hC⟩ := hrel
    obtain ⟨cap, hcap, c2⟩ := h.x.c2
    by_cases hlt : j < us.length
    · obtain ⟨o0, o1, o2, o3, o4, o5, o6⟩ := h.x.row.one j hlt
      obtain ⟨p, hp⟩ : ∃ p, p = tellB us j := ⟨_, rfl⟩
      have hp' := hp.trans (tell_in hlt)
      have q0 : us[j].score = p.score := by rw [hp']
      have q1 : us[j].agree = p.agree := by rw [hp']
      have q2 : us[j].dissent = p.dissent := by rw [hp']
      have q3 : us[j].silent = p.silent := by rw [hp']
      have q4 : us[j].rests = p.rests := by rw [hp']
      have q5 : us[j].trial = p.trial := by rw [hp']
      have q6 : p.til = 0 := by rw [hp']
      obtain ⟨t, ht⟩ : ∃ t, t = us[j].til := ⟨_, rfl⟩
      rw [q0] at o0
      rw [q1] at o1
      rw [q2] at o2
      rw [q3] at o3
      rw [q4] at o4
      rw [q5] at o5
      rw [← ht] at o6
      have HP := Lib.hid hp
      have HQ6 := Lib.hid q6
      have heq := fun W => eq_ups 9998 p p W
      unfold upA at heq
      simp only [decide_true] at heq
      have hji : (j : Int) < (us.length : Int) := by omega
      clear q0 q1 q2 q3 q4 q5 q6 hp hp' ht
      go_wp2_with fail
      obtain ⟨g, hg⟩ : ∃ g, g = wr.heap.size := ⟨_, rfl⟩
      rw [← hg]
      refine wp_abs ?_
      intro w0 hw0
      have z0 : Cells7 w0 g p := by
        rw [hw0, hg]
        have := cell_of (i := 6) (heap_new wr (.cells #[.int .i64 p.score, .int .i64 p.agree, .int .i64 p.dissent, .int .i64 p.silent, .bool p.rests, .bool p.trial, .int .i64 0] 36))
        refine ⟨cell_of (heap_new _ _), cell_of (heap_new _ _), cell_of (heap_new _ _), cell_of (heap_new _ _), cell_of (heap_new _ _), cell_of (heap_new _ _), ?_⟩
        rw [HQ6.out]
        exact this
      have hC0 : Chg [] wr w0 := by rw [hw0]; exact (Chg.refl _ _).alloc _
      have h0 := h.chg hC0
      have hD0 := hC.trans hC0
      clear hw0 hg h hC hC0 o0 o1 o2 o3 o4 o5 o6 c2
      have S1 : Hid (Cells7 w0.drew g p) := Lib.hid (z0.chg ((Chg.refl [] _).drew))
      have h0d := (h0.chg ((Chg.refl [] _).drew)).l
      clear z0
      unfold Cells7 at S1
      go_region_held3 (fun W => W.cell? ⟨g, 0, none⟩ = some (.int .i64 p.score) ∧ W.cell? ⟨g, 1, none⟩ = some (.int .i64 p.agree) ∧ W.cell? ⟨g, 2, none⟩ = some (.int .i64 p.dissent) ∧ W.cell? ⟨g, 3, none⟩ = some (.int .i64 p.silent) ∧ W.cell? ⟨g, 4, none⟩ = some (.bool p.rests) ∧ W.cell? ⟨g, 5, none⟩ = some (.bool p.trial) ∧ W.cell? ⟨g, 6, none⟩ = some (.int .i64 p.til)) (first | (with_reducible exact S2.out) | (with_reducible exact S1.out)) (first | (go_at_call 16; go_must (refine (of_any b r L R us j p HP _ h0d).mono ?_; rintro e9 w6 ⟨rfl, hc6⟩; unfold upA; have S2 := Lib.hid (Cells7.chg S1.out hc6); unfold Cells7 at S2)))
      have h6 := h0.chg hc6.undrew
      have hC6 := hD0.trans hc6.undrew
      clear hc6 h0 h0d hD0 S1 S2
      go_wp2
      go_roundw
      case rel => exact ⟨j + 1, by omega, by go_num, h6, hC6⟩
      case measure => simp [intOf] <;> omega
    · have dj : decide (j < us.length) = false := by simpa using hlt
      clear hlt
      go_wp2_with fail
      refine (may_v b r L R us _ ml h.l HML).mono ?_
      rintro e w1 ⟨a1, c1, rfl, own1, hc1⟩
      have h1 := h.chg hc1
      have hC1 := hC.trans hc1
      have hsz0 : w.heap.size ≤ wr.heap.size := hC.size
      have HOWN1 := Lib.hid own1
      have HBS : Hid (b < wr.heap.size ∧ r < wr.heap.size ∧ q < wr.heap.size ∧ s < wr.heap.size) := Lib.hid ⟨h.l.lt, h.l.ltr, h.x.lt, h.x.ltr⟩
      clear h hC hc1 own1 c2
      go_wp2_with fail
      refine (rmay_any q s L R us _ h1.x ml HML).mono ?_
      rintro e w2 ⟨a2, c2', rfl, own2, hc2⟩
      have h2 := h1.chg hc2
      have hC2 := hC1.trans hc2
      have HOWN1 : Hid (OwnI wr.heap.size w2 (.slice a1 ml.length c1) ml) := owns_chg HOWN1.out hc2 (by simp)
      have HOWN2 := Lib.hid own2
      clear h1 hC1 hc2 own2
      go_wp2_with fail
      refine (ints_c _ _ ml ml true (Lib.hid (by simp)) _ (row_of_own HOWN1.out) (row_of_own HOWN2.out) (by omega) (by omega)).mono ?_
      rintro e w3 ⟨rfl, hc3⟩
      have h3 := h2.chg hc3
      have hC3 := hC2.trans hc3
      have HOWN1 : Hid (OwnI wr.heap.size w3 (.slice a1 ml.length c1) ml) := owns_chg HOWN1.out hc3 (by simp)
      clear h2 hC2 hc3 HOWN2
      have b0 : b < wr.heap.size ∧ r < wr.heap.size ∧ q < wr.heap.size ∧ s < wr.heap.size := HBS.out
      have HRA := Lib.hid (rowAny_of HOWN1.out)
      obtain ⟨base, hbase⟩ : ∃ base, base = wr.heap.size := ⟨_, rfl⟩
      rw [← hbase] at HRA b0 hsz0
      clear hbase HOWN1 HBS
      go_wp2_with fail
      go_loopw [9] (AlkM base a1 ml.length c1 b r q s L R us w) (fun i _ => ml.length - (intOf i).toNat)
      case atStart => exact ⟨0, Nat.zero_le _, rfl, HRA.out, h3, hC3⟩
      case round =>
        clear h3 hC3 HRA
        obtain ⟨k, hk, rfl, hra, h3, hC3⟩ := hrel
        by_cases hkl : k < ml.length
        · obtain ⟨g, y, rfl, hbg, k1, k2, hset⟩ := hra.at hkl
          have HSET := Lib.hid hset
          clear hset hra
          go_wp2
          go_roundw
          case rel => exact ⟨k + 1, by omega, by go_num, HSET.out _, h3.to (Chg.set1 _ _ _ _) (by simp; omega) (by simp; omega) (by simp; omega) (by simp; omega), hC3.trans_new (Chg.set1 _ _ _ _) (by simp; omega)⟩
          case measure => simp [intOf] <;> omega
        · have dk : decide (k < ml.length) = false := by simpa using hkl
          clear hkl hra
          go_wp2_with fail
          refine (due_v b r L R us _ h3.l dt df HD).mono ?_
          rintro e w4 ⟨rfl, hc4⟩
          have h4 := h3.chg hc4
          have hC4 := hC3.trans hc4
          clear h3 hC3 hc4
          go_wp2_with fail
          refine (rdue_any q s L R us _ h4.x dt df HD).mono ?_
          rintro e w5 ⟨rfl, hc5⟩
          have h5 := h4.chg hc5
          have hC5 := hC4.trans hc5
          clear h4 hC4 hc5
          obtain ⟨cap5, _, c5⟩ := h5.x.c2
          have heq : ∀ W, (Op.equalIn 10000 36 (.agg #[.int .i64 0, .int .i64 0, .int .i64 0, .int .i64 0, .bool false, .bool false, .int .i64 0]) (.agg #[.int .i64 0, .int .i64 0, .int .i64 0, .int .i64 0, .bool false, .bool false, .int .i64 0])).run Try.prog W = .ok true W := fun W => eq_ups 9998 noUp noUp W
          have tok1 : True := trivial
          go_wp2_with fail
          go_region_held3 (fun W => W.cell? ⟨q, 2, none⟩ = some (.slice (some ⟨s, 0, none⟩) us.length cap5)) (first | exact c7 | exact c6 | exact c5 | assumption) (first | (go_at_call 27; refine (len_any b r L R us _ ?_).mono ?_; exact (h5.chg ((Chg.refl [] _).drew)).l; rintro e9 w9 ⟨rfl, rfl⟩) | (go_at_call 16; have _t := tok1; clear tok1; refine (of_out b r L R us _ _ (has_neg us) ?_).mono ?_; exact (h5.chg ((Chg.refl [] _).drew)).l; rintro e9 w6 ⟨rfl, hc6⟩; have h6 := h5.chg hc6.undrew; have c6 : w6.cell? ⟨q, 2, none⟩ = some (.slice (some ⟨s, 0, none⟩) us.length cap5) := hc6.undrew.cell c5 (by simp)) | (go_at_call 16; refine (of_out b r L R us _ _ (has_len us) ?_).mono ?_; exact h6.l; rintro e9 w7 ⟨rfl, hc7⟩; have h7 := h6.chg hc7; have c7 : w7.cell? ⟨q, 2, none⟩ = some (.slice (some ⟨s, 0, none⟩) us.length cap5) := hc7.cell c6 (by simp)))
          have hC7 := (hC5.trans hc6.undrew).trans hc7
          clear h5 h6 h7 hC5 hc6 hc7 c5 c6 c7
          go_wp2
          go_ret
          exact ⟨rfl, hC7⟩

end Go.Proofs.Ytjcciojbljlloaa
