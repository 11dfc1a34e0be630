/- The walk of the document's Order. -/
import Derived.Test.YtdbannnbbngckaaOrdH
namespace Go.Proofs.Ytdbannnbbngckaa
open Go.RowKit

theorem rtape_book {w : World} {t seed : Nat} {l : List Nat} {n q s L R : Nat} {us : List Up} (ht : D.RTape w t seed l n) (h : RBook w q s L R us) : q ≠ t ∧ s ≠ t := by
  obtain ⟨v, h1, _⟩ := ht
  obtain ⟨cap, _, h2⟩ := h.head
  obtain ⟨rest, h3⟩ := h.row
  constructor
  · intro e; subst e; rw [h1] at h2; injection h2 with h2; injection h2 with _ h2; exact absurd h2 (by decide)
  · intro e; subst e; rw [h1] at h3; injection h3 with h3; injection h3 with _ h3; exact absurd h3 (by decide)

/-- What the document's Order leaves. -/
def ROrderPost (t seed used : Nat) (l : List Nat) (us : List Up) (ord : List Nat) (w : World) (e : Ending) (w' : World) : Prop :=
  ∃ a c, e = .returned (.slice a ord.length c) ∧ OwnI w.heap.size w' (.slice a ord.length c) ord ∧ D.RTape w' t seed l (used + ((mayN us).length - 1)) ∧ Chg [t] w w'

def RRowR (w3 : World) (row : List Nat) (v i : Value) (wr : World) : Prop :=
  ∃ k : Nat, k ≤ row.length ∧ i = .int .i64 k ∧ OwnI w3.heap.size wr v (row.take k) ∧ Chg [] w3 wr
/-- The row that is left, and what was taken. -/
structure SelAt (w3 wr : World) (N : Nat) (key : Nat → Nat) (ord cur acc : List Nat) (v o : Value) : Prop where
  mem : ∀ x ∈ cur, x < N
  len : acc.length + cur.length ≤ 9
  row : OwnI w3.heap.size wr v cur
  out : OwnI w3.heap.size wr o acc
  apart : ∀ g, v.ownBlock = some g → o.ownBlock ≠ some g
  eq : acc ++ selK key cur.length cur = ord
  chg : Chg [] w3 wr
def SelR (w3 : World) (N : Nat) (key : Nat → Nat) (ord : List Nat) (v o : Value) (wr : World) : Prop := ∃ cur acc, SelAt w3 wr N key ord cur acc v o
def MinR (wo : World) (key : Nat → Nat) (cur : List Nat) (k i : Value) (wr : World) : Prop :=
  ∃ j : Nat, 1 ≤ j ∧ j ≤ cur.length ∧ i = .int .i64 j ∧ k = .int .i64 (minK key cur (j - 1)) ∧ Chg [] wo wr
theorem minK_step (key : Nat → Nat) (l : List Nat) (j : Nat) (h : 1 ≤ j) : minK key l (j + 1 - 1) = if key (l.getD j 0) < key (l.getD (minK key l (j - 1)) 0) then j else minK key l (j - 1) := by
  obtain ⟨m, rfl⟩ : ∃ m, j = m + 1 := ⟨j - 1, by omega⟩
  rfl

set_option maxRecDepth 100000 in
set_option maxHeartbeats 2000000 in
theorem rorder_none (q s L R t seed used : Nat) (l : List Nat) (us : List Up) (w : World) (h : RBook w q s L R us) (ht : D.RTape w t seed l used) (hml : mayN us = []) :
    Calls Try.prog 25 #[.pointer (some ⟨q, 0, none⟩), .pointer (some ⟨t, 0, none⟩)] w (ROrderPost t seed used l us (ordN us (D.drawN seed l) used) w) := by
  have HML := Lib.hid hml
  have hord : ordN us (D.drawN seed l) used = [] := List.length_eq_zero_iff.1 (by rw [ordN_len, hml]; rfl)
  rw [hord]
  clear hml hord
  go_enter Try.func25, Try.ntmps25
  go_wp2_with fail
  refine (rmay_any q s L R us _ h [] HML).mono ?_
  rintro e w1 ⟨a1, c1, rfl, own1, hc1⟩
  have t1 := ht.chg hc1 (by simp) (by simp)
  clear h ht own1
  go_wp2_with fail
  refine (D.rshuffle_out (some ⟨t, 0, none⟩) 0 _ (by omega)).mono ?_
  rintro e w3 ⟨rfl, rfl⟩
  go_wp2_with fail
  go_loop [7, 8] (fun v i => v = .slice none 0 0 ∧ i = .int .i64 0) (fun _ _ => 0)
  case atStart => exact ⟨rfl, rfl⟩
  case round =>
    obtain ⟨rfl, rfl⟩ := hrel
    go_wp2_with fail
    go_loop [7, 9] (fun v o => v = .slice none 0 0 ∧ o = .slice none 0 0) (fun _ _ => 0)
    case atStart => exact ⟨rfl, rfl⟩
    case round =>
      obtain ⟨rfl, rfl⟩ := hrel
      go_wp2
      go_ret
      exact ⟨none, 0, rfl, ⟨rfl, .inl ⟨rfl, rfl⟩⟩, by rw [HML.out]; exact t1, hc1.mono (by simp)⟩

theorem own_cap {base : Nat} {w : World} {a : Addr} {c : Nat} {l : List Nat} (h : OwnI base w (.slice (some a) l.length c) l) : l.length ≤ c := by
  obtain ⟨_, h⟩ := h
  rcases h with ⟨hv, _⟩ | ⟨g, cap, cur, hv, hg, hb, h1, _⟩
  · cases hv
  · injection hv with _ _ hv3
    omega
theorem own_lt {base : Nat} {w : World} {v : Value} {n : Nat} {xs : List Value} (h : w.ownsRow base 3 1 v n xs) {g : Nat} (hg : v.ownBlock = some g) : g < w.heap.size := by
  obtain ⟨_, h⟩ := h
  rcases h with ⟨rfl, _⟩ | ⟨g', cap, cur, rfl, _, hb, _⟩
  · cases hg
  · injection hg with hg
    subst hg
    exact lt_of_block hb
theorem one_ints {l : List Nat} : ∀ u ∈ (l.map fun (x : Nat) => Value.int .i64 x), u.oneCell' = true := by
  intro u hu
  simp at hu
  obtain ⟨x, _, rfl⟩ := hu
  rfl
theorem src_of {w : World} {rb : Nat} {cur : List Nat} (h : MayAt w rb cur) (k : Nat) : ∀ p, some (⟨rb, 0, none⟩ : Addr) = some p → ∀ j u, ((cur.take k).map fun (x : Nat) => Value.int .i64 x)[j]? = some u → w.cell? (p.add j) = some u := by
  intro p hp j u hu
  cases hp
  have hj : j < cur.length ∧ j < k := by
    have := (List.getElem?_eq_some_iff.1 hu).1
    simp at this
    omega
  rw [add_at, Nat.zero_add, h j hj.1, ← hu]
  simp [hj.1, hj.2]
theorem src_of2 {w : World} {rb : Nat} {cur : List Nat} (h : MayAt w rb cur) (k : Nat) : ∀ p, some (⟨rb, k, none⟩ : Addr) = some p → ∀ j u, ((cur.drop k).map fun (x : Nat) => Value.int .i64 x)[j]? = some u → w.cell? (p.add j) = some u := by
  intro p hp j u hu
  cases hp
  have hj : k + j < cur.length := by
    have := (List.getElem?_eq_some_iff.1 hu).1
    simp at this
    omega
  rw [add_at, h (k + j) hj, ← hu]
  simp [hj]
theorem erase_split (l : List Nat) (k : Nat) : l.eraseIdx k = l.take k ++ l.drop (k + 1) := List.eraseIdx_eq_take_drop_succ l k

set_option maxRecDepth 100000 in
set_option maxHeartbeats 4000000 in
theorem rorder_some (q s L R t seed used : Nat) (l : List Nat) (us : List Up) (w : World) (h : RBook w q s L R us) (ht : D.RTape w t seed l used) (hu : used < 4000000000000000000) (hpos : 0 < (mayN us).length) :
    Calls Try.prog 25 #[.pointer (some ⟨q, 0, none⟩), .pointer (some ⟨t, 0, none⟩)] w (ROrderPost t seed used l us (ordN us (D.drawN seed l) used) w) := by
  obtain ⟨ml, hml⟩ : ∃ ml, mayN us = ml := ⟨_, rfl⟩
  obtain ⟨sh, hsh⟩ : ∃ sh, sh = D.shufN (D.drawN seed l) used ml.length := ⟨_, rfl⟩
  obtain ⟨row, hrow⟩ : ∃ row, row = sh.map fun i => ml.getD i 0 := ⟨_, rfl⟩
  obtain ⟨key, hkey⟩ : ∃ key, key = keyE (scU us) (trU us) := ⟨_, rfl⟩
  obtain ⟨ord, hord⟩ : ∃ ord, ord = ordK key row := ⟨_, rfl⟩
  have hO : ordN us (D.drawN seed l) used = ord := by rw [hord, hkey, hrow, hsh, ← hml]; rfl
  rw [hO]
  rw [hml] at hpos
  have hlen := h.len
  have hm9 : ml.length ≤ 9 := by rw [← hml]; exact Nat.le_trans (idxN_len _ _ _) hlen
  have hshl : sh.length = ml.length := by rw [hsh, D.shufN_length]
  have hrl : row.length = ml.length := by rw [hrow, List.length_map, hshl]
  have hol : ord.length = ml.length := by rw [hord, ordK_length, hrl]
  have hslt : ∀ i (hi : i < sh.length), sh[i] < ml.length := fun i hi => D.shufN_lt _ _ _ hpos _ (by rw [← hsh]; exact List.getElem_mem hi)
  have hget : ∀ i (hi : i < sh.length), row.take (i + 1) = row.take i ++ [ml.getD sh[i] 0] := fun i hi => by
    rw [List.take_succ_eq_append_getElem (by omega)]
    congr 2
    simp [hrow]
  have hmem : ∀ x ∈ row, x < us.length := fun x hx => by
    rw [hrow] at hx
    obtain ⟨i, hi, rfl⟩ := List.mem_map.1 hx
    obtain ⟨k, hk, rfl⟩ := List.mem_iff_getElem.1 hi
    have h1 := hslt k hk
    have h2 : ml[sh[k]] ∈ mayN us := by rw [hml]; exact List.getElem_mem h1
    have h3 := (idxN_mem free ml[sh[k]] us 0).1 h2
    obtain ⟨_, h4, _⟩ := h3
    simpa [h1] using h4
  have HML := Lib.hid hml
  have HSH := Lib.hid hsh
  have HKEY := Lib.hid hkey
  have HSEL : Hid (selK key row.length row = ord) := Lib.hid (by rw [hord]; exact selK_ord key row)
  have HLEN := Lib.hid (And.intro hshl (And.intro hrl hol))
  have HSLT := Lib.hid hslt
  have HGET := Lib.hid hget
  have HMEM := Lib.hid hmem
  obtain ⟨j0, hj0, hy0, hy1, hy2⟩ := info_parts Try.elemInt
  have htl := ht.lt
  have hqt : q ≠ t := (rtape_book ht h).1
  have hst : s ≠ t := (rtape_book ht h).2
  clear hml hsh hrow hord hO hlen hshl hrl hol hslt hget hkey hmem
  go_enter Try.func25, Try.ntmps25
  go_wp2_with fail
  refine (rmay_any q s L R us _ h ml HML).mono ?_
  rintro e w1 ⟨a1, c1, rfl, own1, hc1⟩
  obtain ⟨rb, ha1, hrbw, hrb1, hmay1⟩ := may_of_own own1 hpos
  subst ha1
  have b1 := h.chg hc1 (by simp) (by simp)
  have t1 := ht.chg hc1 (by simp) (by simp)
  have hs1 : w.heap.size ≤ w1.heap.size := hc1.size
  clear h ht own1
  have hmI : (ml.length : Int) ≤ 9 := by omega
  have M1 := Lib.hid hmay1
  clear hmay1
  go_wp2_with fail
  refine (D.rshuffle_any t seed l used ml.length _ t1 hu hpos (by omega)).mono ?_
  rintro e w3 ⟨rfl, s3, t3, hc3⟩
  obtain ⟨sb, hsb⟩ : ∃ sb, sb = w1.heap.size := ⟨_, rfl⟩
  rw [← hsb] at s3 ⊢
  rw [← HSH.out] at s3
  have b3 := b1.chg hc3 (by simpa using hqt) (by simpa using hst)
  have M3 := Lib.hid (M1.out.chg hc3 (by simp; omega))
  have S3 := Lib.hid s3
  have hC3 : Chg [t] w w3 := (hc1.mono (by simp)).trans hc3
  obtain ⟨u', hu'⟩ : ∃ u', u' = used + (ml.length - 1) := ⟨_, rfl⟩
  rw [← hu'] at t3
  have HU := Lib.hid hu'
  clear b1 t1 M1 s3 hc3 hu' hsb hrb1 hs1 hc1
  go_wp2_with fail
  go_loopw [7, 8] (RRowR w3 row) (fun _ i _ => row.length - (intOf i).toNat)
  case atStart => exact ⟨0, Nat.zero_le _, rfl, ⟨rfl, .inl ⟨rfl, rfl⟩⟩, Chg.refl _ _⟩
  case round =>
    obtain ⟨k, hk, rfl, own, hC⟩ := hrel
    have hr1 : row.length ≤ ml.length := by rw [HLEN.out.2.1]; exact Nat.le_refl _
    have hr2 : ml.length ≤ row.length := by rw [HLEN.out.2.1]; exact Nat.le_refl _
    by_cases hkm : k < ml.length
    · have hks : k < sh.length := by rw [HLEN.out.1]; exact hkm
      obtain ⟨si, hsi⟩ : ∃ si, si = sh[k] := ⟨_, rfl⟩
      have hsl : si < ml.length := by rw [hsi]; exact HSLT.out k hks
      have k1 : wr.cell? ⟨sb, k, none⟩ = some (.int .i64 (si : Nat)) := by rw [hsi]; exact hC.cell ((cell_of S3.out).trans (rowI_get _ _ _ hks)) (by simp)
      obtain ⟨x, hx⟩ : ∃ x, x = ml[si] := ⟨_, rfl⟩
      have k2 : wr.cell? ⟨rb, si, none⟩ = some (.int .i64 (x : Nat)) := by rw [hx]; exact hC.cell (M3.out si hsl) (by simp)
      have hnext : row.take (k + 1) = row.take k ++ [x] := by
        rw [HGET.out k hks, ← hsi, hx]; simp [hsl]
      obtain ⟨tk', htk'⟩ : ∃ tk', tk' = row.take k := ⟨_, rfl⟩
      have htl' : tk'.length = k := by rw [htk']; simp; omega
      rw [← htk'] at own hnext
      obtain ⟨av, cv, hv⟩ := owns_len own
      rw [htl'] at hv
      subst hv
      have hk9 : k < 9 := by omega
      have hkI : (k : Int) < (ml.length : Int) := by omega
      have hsI : (si : Int) < (ml.length : Int) := by omega
      have HNEXT := Lib.hid hnext
      have HTL := Lib.hid htl'
      have OWN := Lib.hid own
      have hwr3 : w3.heap.size ≤ wr.heap.size := hC.size
      clear hsi hx hnext htk' htl' own
      go_wp2_with (at_builtin; go_must (refine wpList_append_own _ rfl _ _ 32 rfl w3.heap.size 3 j0 (.int .i64 0) 1 8 Try.underlying32 hj0 hy0 hy1 hy2 rfl (by decide) _ tk'.length _ rfl (OWN.out.alloc _) ⟨wr.heap.size, 0, none⟩ 1 1 [.int .i64 (x : Nat)] rfl rfl (cell_one_new _ _ _) (by simp [Value.oneCell']) (by rw [HTL.out]; unfold maxLen; omega) (by rw [HTL.out]; omega) (by simp; omega) ?_); go_must (intro v1 w5 own5 hg5 _; have hC5 := (hC.alloc (.cells #[.int .i64 (x : Nat)] 3)).grown hg5 (owns_block OWN.out)))
      go_roundw
      case rel =>
        refine ⟨k + 1, by omega, by go_num, ?_, hC5⟩
        rw [HNEXT.out]
        exact OwnI.snoc own5
      case measure => simp [intOf] <;> omega
    · have dk : decide (k < ml.length) = false := by simpa using hkm
      rw [List.take_of_length_le (by omega)] at own
      have ST : Hid (SelAt w3 wr us.length key ord row [] u7 (.slice none 0 0)) := Lib.hid ⟨HMEM.out, by simp; omega, own, ⟨rfl, .inl ⟨rfl, rfl⟩⟩, fun g _ => by simp [Value.ownBlock], by rw [List.nil_append]; exact HSEL.out, hC⟩
      clear own hC hkm
      go_wp2_with fail
      clear dk
      go_loopw [7, 9] (SelR w3 us.length key ord) (fun v _ _ => lenOf v)
      case atStart => exact ⟨row, [], ST.out⟩
      case round =>
        clear ST
        obtain ⟨cur, acc, hS⟩ := hrel
        obtain ⟨ao, co, ho⟩ := owns_len hS.out
        obtain ⟨av, cv, hv⟩ := owns_len hS.row
        subst ho
        subst hv
        have hln := hS.len
        have HS := Lib.hid hS
        by_cases hnil : cur.length = 0
        · have hc0 : cur = [] := List.length_eq_zero_iff.1 hnil
          subst hc0
          have hacc : acc = ord := by have := HS.out.eq; simpa [selK] using this
          subst hacc
          have hwb : w.heap.size ≤ w3.heap.size := hC3.size
          have t5 := t3.chg HS.out.chg (by simp) (by simp)
          have hC5 : Chg [t] w wr := hC3.trans (HS.out.chg.mono (by simp))
          clear hS hnil
          simp only [List.length_nil]
          go_wp2
          go_ret
          exact ⟨ao, co, rfl, owns_base HS.out.out hwb, by rw [HML.out, ← HU.out]; exact t5, hC5⟩
        · obtain ⟨rb2, ha2, hrb2w, hrb2l, hmay2⟩ := may_of_own hS.row (by omega)
          subst ha2
          have M2 := Lib.hid hmay2
          have hnpos : 0 < cur.length := by omega
          have hnI : (0 : Int) < (cur.length : Int) := by omega
          have hn9 : (cur.length : Int) ≤ 9 := by omega
          clear hS hmay2 hnil
          go_wp2_with fail
          obtain ⟨wo, rfl⟩ : ∃ wo : World, wo = wr := ⟨_, rfl⟩
          go_loopw [10, 11] (MinR wo key cur) (fun _ i _ => cur.length - (intOf i).toNat)
          case atStart => exact ⟨1, Nat.le_refl _, by omega, rfl, rfl, Chg.refl _ _⟩
          case round =>
            obtain ⟨j, hj1, hj, rfl, rfl, hC⟩ := hrel
            have hmle := minK_le key cur (j - 1)
            obtain ⟨mk, hmk⟩ : ∃ mk, mk = minK key cur (j - 1) := ⟨_, rfl⟩
            rw [← hmk] at hmle ⊢
            have HMK := Lib.hid hmk
            clear hmk
            by_cases hjl : j < cur.length
            · have hml' : mk < cur.length := by omega
              obtain ⟨x, hx⟩ : ∃ x, x = cur[j] := ⟨_, rfl⟩
              obtain ⟨y, hy⟩ : ∃ y, y = cur[mk] := ⟨_, rfl⟩
              have hxu : x < us.length := by rw [hx]; exact HS.out.mem _ (List.getElem_mem hjl)
              have hyu : y < us.length := by rw [hy]; exact HS.out.mem _ (List.getElem_mem hml')
              have S1 : Hid (wr.drew.cell? ⟨rb2, j, none⟩ = some (.int .i64 (x : Nat)) ∧ wr.drew.cell? ⟨rb2, mk, none⟩ = some (.int .i64 (y : Nat))) := Lib.hid ⟨by rw [hx]; exact hC.cell (M2.out j hjl) (by simp), by rw [hy]; exact hC.cell (M2.out mk hml') (by simp)⟩
              have hgx : cur.getD j 0 = x := by rw [hx]; simp [hjl]
              have hgy : cur.getD mk 0 = y := by rw [hy]; simp [hml']
              have HG := Lib.hid (And.intro hgx hgy)
              have bk := (b3.chg HS.out.chg (by simp) (by simp)).chg hC (by simp) (by simp)
              have bkd := bk.chg ((Chg.refl [] _).drew) (by simp) (by simp)
              have i1 : (j : Int) < (cur.length : Int) := by omega
              have i2 : (mk : Int) < (cur.length : Int) := by omega
              have i3 : (0 : Int) ≤ (j : Int) := by omega
              have i4 : (0 : Int) ≤ (mk : Int) := by omega
              clear hx hy hgx hgy bk
              obtain ⟨B, hB⟩ : ∃ B, B = decide (key x < key y) := ⟨_, rfl⟩
              have HB : Hid (B = decide (keyE (scU us) (trU us) x < keyE (scU us) (trU us) y)) := Lib.hid (by rw [hB, HKEY.out])
              have HBK := Lib.hid hB
              clear hB
              go_wp2_with fail
              go_region_held3 (fun W => W.cell? ⟨rb2, j, none⟩ = some (.int .i64 (x : Nat)) ∧ W.cell? ⟨rb2, mk, none⟩ = some (.int .i64 (y : Nat))) (first | (with_reducible exact S2.out) | (with_reducible exact S1.out)) (first | (go_at_call 46; go_must (refine (ahead_any q s L R x y us _ bkd hxu hyu B HB).mono ?_; rintro e9 w6 ⟨rfl, hc6⟩; have S2 := Lib.hid (And.intro (hc6.cell S1.out.1 (by simp)) (hc6.cell S1.out.2 (by simp))))))
              have hC6 := hC.trans hc6.undrew
              clear S1 S2 bkd hc6 hC
              have HST : Hid (minK key cur (j + 1 - 1) = if B = true then j else mk) := Lib.hid (by rw [minK_step key cur j hj1, ← HMK.out, HG.out.1, HG.out.2, HBK.out]; simp)
              cases B with
              | true =>
                go_wp2
                go_roundw
                case rel => exact ⟨j + 1, by omega, by omega, by go_num, by rw [HST.out]; rfl, hC6⟩
                case measure => simp [intOf] <;> omega
              | false =>
                go_wp2
                go_roundw
                case rel => exact ⟨j + 1, by omega, by omega, by go_num, by rw [HST.out]; rfl, hC6⟩
                case measure => simp [intOf] <;> omega
            · obtain rfl : j = cur.length := by omega
              have dj : decide (cur.length < cur.length) = false := by simp
              have hml' : mk < cur.length := by omega
              obtain ⟨x, hx⟩ : ∃ x, x = cur[mk] := ⟨_, rfl⟩
              have k1 : wr.cell? ⟨rb2, mk, none⟩ = some (.int .i64 (x : Nat)) := by rw [hx]; exact hC.cell (M2.out mk hml') (by simp)
              have i2 : (mk : Int) < (cur.length : Int) := by omega
              have OUT := Lib.hid (owns_chg HS.out.out hC (by simp))
              have ROW := Lib.hid (owns_chg HS.out.row hC (by simp))
              have hcv : cur.length ≤ cv := own_cap ROW.out
              have hwr : w3.heap.size ≤ wr.heap.size := Nat.le_trans HS.out.chg.size hC.size
              have hrb2r : rb2 < wr.heap.size := by have := hC.size; omega
              have HX := Lib.hid hx
              have hA : Hid (∀ g, (Value.slice (some ⟨rb2, 0, none⟩) cur.length cv).ownBlock = some g → (Value.slice ao acc.length co).ownBlock ≠ some g) := Lib.hid HS.out.apart
              have M3' := Lib.hid (M2.out.chg hC (by simp))
              clear hx
              go_wp2_with (at_builtin; go_must (refine wpList_append_own_at _ rfl _ _ 32 rfl w3.heap.size 3 j0 (.int .i64 0) 1 8 Try.underlying32 hj0 hy0 hy1 hy2 rfl (by decide) _ acc.length _ rfl (OUT.out.alloc _) ⟨wr.heap.size, 0, none⟩ 1 1 [.int .i64 (x : Nat)] rfl rfl (cell_one_new _ _ _) (by simp [Value.oneCell']) (by unfold maxLen; omega) (by omega) (by simp; omega) ?_); go_must (intro v1 w5 own5 hg5 _ hat5; obtain ⟨a5, c5, hv5⟩ := owns_len own5; subst hv5))
              have hc5 : Chg [] w3 w5 := ((HS.out.chg.trans hC).alloc (.cells #[.int .i64 (x : Nat)] 3)).grown hg5 (owns_block OUT.out)
              have row5 := (ROW.out.alloc (.cells #[.int .i64 (x : Nat)] 3)).kept hg5 (.inr fun e => hA.out rb2 rfl e.symm)
              have ROW5 : Hid (OwnI w3.heap.size w5 (.slice (some ⟨rb2, 0, none⟩) cur.length cv) cur) := Lib.hid row5
              have OUT5 : Hid (OwnI w3.heap.size w5 (.slice a5 (acc.length + 1) c5) (acc ++ [x])) := Lib.hid (OwnI.snoc own5)
              obtain ⟨rb5, hr5, _, hrb5, m5⟩ := may_of_own ROW5.out hnpos
              injection hr5 with hr5
              injection hr5 with hr5 _ _
              subst hr5
              have M5 := Lib.hid m5
              have HNEW := Lib.hid (owns_none w5 3)
              clear own5 hg5 hat5 row5 m5 OUT ROW k1 dj
              have HSRC1 : Hid (∀ p, some (⟨rb2, 0, none⟩ : Addr) = some p → ∀ j u, ((cur.take mk).map fun (x : Nat) => Value.int .i64 x)[j]? = some u → (w5.alloc (.cells #[] 3)).cell? (p.add j) = some u) := Lib.hid (src_of (M5.out.chg ((Chg.refl [] _).alloc _) (by simp)) mk)
              have HSRC2 : Hid (∀ (W : World), Chg [] w5 W → ∀ p, some (⟨rb2, mk + 1, none⟩ : Addr) = some p → ∀ j u, ((cur.drop (mk + 1)).map fun (x : Nat) => Value.int .i64 x)[j]? = some u → W.cell? (p.add j) = some u) := Lib.hid (fun W hW => src_of2 (M5.out.chg hW (by simp)) (mk + 1))
              have HL1 : Hid (((cur.take mk).map fun (x : Nat) => Value.int .i64 x).length = mk * 1) := Lib.hid (by simp; omega)
              have HL2 : Hid (((cur.drop (mk + 1)).map fun (x : Nat) => Value.int .i64 x).length = (cur.length - (mk + 1)) * 1) := Lib.hid (by simp)
              have e1 : IntKind.i64.wrap ((mk : Int) + 1) = (mk : Int) + 1 := IntWalk.i64_in _ (by omega)
              have e2 : ((mk : Int) + 1).toNat = mk + 1 := by omega
              have i3 : (0 : Int) ≤ (mk : Int) + 1 := by omega
              have i4 : (mk : Int) + 1 ≤ (cur.length : Int) := by omega
              have i5 : (mk : Int) ≤ (cv : Int) := by omega
              have i6 : (cur.length : Int) ≤ (cv : Int) := by omega
              have i7 : (0 : Int) ≤ (mk : Int) := by omega
              have HLE : Hid (cur.length ≤ 9 ∧ mk < cur.length ∧ cur.length ≤ cv) := Lib.hid ⟨by omega, hml', hcv⟩
              by_cases hcap : cv = mk + 1
              · have HCUR : Hid (cur.length = mk + 1) := Lib.hid (by omega)
                subst hcap
                have i8 : (mk : Int) ≤ (mk : Int) + 1 := by omega
                have i9 : (cur.length : Int) ≤ (mk : Int) + 1 := by omega
                have i10 : mk ≤ mk + 1 := by omega
                go_region_law (first | (refine step_append_src rfl (.tmp 61) (.tmp 64) 32 rfl w5.heap.size 3 j0 (.int .i64 0) 1 8 Try.underlying32 hj0 hy0 hy1 hy2 rfl (by decide) (.slice (some ⟨w5.heap.size, 0, none⟩) 0 0) 0 [] rfl HNEW.out (some ⟨rb2, 0, none⟩) mk (mk + 1) ((cur.take mk).map fun (x : Nat) => Value.int .i64 x) rfl (by simp) (by simp) HL1.out HSRC1.out one_ints (by have := HLE.out; unfold maxLen; omega) (by have := HLE.out; omega) (by simp) ?_; intro v6 w6 own6 hg6 _; rw [Nat.zero_add, List.nil_append] at own6; obtain ⟨a6, c6, hv6⟩ := owns_len own6; subst hv6; have hc6 : Chg [] w5 w6 := (((Chg.refl [] w5).alloc (.cells #[] 3)).drew).grown hg6 (fun k hk => (by injection hk with hk; subst hk; exact .inr (Nat.le_refl _)))) | (refine step_append_src rfl (.tmp 65) (.tmp 69) 32 rfl w5.heap.size 3 j0 (.int .i64 0) 1 8 Try.underlying32 hj0 hy0 hy1 hy2 rfl (by decide) (.slice a6 mk c6) mk _ rfl own6 (some ⟨rb2, 0, none⟩) 0 0 [] rfl (by simp) (by simp) rfl (by intro p hp j u hu; simp at hu) (by simp) (by have := HLE.out; unfold maxLen; omega) (by have := HLE.out; omega) hc6.size ?_; intro v7 w7 own7 hg7 _; rw [Nat.add_zero, List.append_nil] at own7; obtain ⟨a7, c7, hv7⟩ := owns_len own7; subst hv7; have hc7 : Chg [] w5 w7 := hc6.grown hg7 (owns_block own6)))
                all_goals
                  have ROW7 : OwnI w5.heap.size w7 (.slice a7 mk c7) (cur.eraseIdx mk) := by
                    unfold OwnI
                    have hl : (cur.eraseIdx mk).length = mk := by rw [List.length_eraseIdx_of_lt HLE.out.2.1]; have := HCUR.out; omega
                    rw [hl, erase_split, List.drop_of_length_le (by have := HCUR.out; omega), List.append_nil]
                    exact own7
                  have ST7 : Hid (SelAt w3 w7 us.length key ord (cur.eraseIdx mk) (acc ++ [x]) (.slice a7 mk c7) (.slice a5 (acc.length + 1) c5)) := by
                    refine Lib.hid ⟨fun y hy => HS.out.mem y (List.mem_of_mem_eraseIdx hy), ?_, owns_base ROW7 hc5.size, ?_, ?_, ?_, hc5.trans hc7⟩
                    · rw [List.length_eraseIdx_of_lt HLE.out.2.1]; have := HLE.out; have := HS.out.len; simp; omega
                    · exact owns_chg OUT5.out hc7 (by simp)
                    · intro g hg hg2
                      have h1 := own_lt OUT5.out hg2
                      rcases owns_block ROW7 g hg with hh | hh
                      · simp at hh
                      · omega
                    · have he := HS.out.eq
                      obtain ⟨nn, hnn⟩ : ∃ nn, cur.length = nn + 1 := ⟨cur.length - 1, by have := HLE.out; omega⟩
                      rw [hnn, selK] at he
                      have hm2 : minK key cur nn = mk := by rw [HMK.out, hnn]; rfl
                      rw [hm2] at he
                      have hx2 : cur.getD mk 0 = x := by rw [HX.out]; simp [HLE.out.2.1]
                      rw [hx2] at he
                      rw [List.length_eraseIdx_of_lt HLE.out.2.1, hnn, Nat.add_sub_cancel, List.append_assoc]
                      exact he
                  clear own6 own7 hg6 hg7 hc6 hc7 ROW7 hc5
                  clear e1 e2
                  go_wp2
                  go_roundw
                  case rel => exact ⟨_, _, ST7.out⟩
                  case measure => have := HLE.out; simp [lenOf]; omega
              · have i8 : (mk : Int) + 1 < (cv : Int) := by omega
                go_region_law (first | (refine step_append_src rfl (.tmp 61) (.tmp 64) 32 rfl w5.heap.size 3 j0 (.int .i64 0) 1 8 Try.underlying32 hj0 hy0 hy1 hy2 rfl (by decide) (.slice (some ⟨w5.heap.size, 0, none⟩) 0 0) 0 [] rfl HNEW.out (some ⟨rb2, 0, none⟩) mk cv ((cur.take mk).map fun (x : Nat) => Value.int .i64 x) rfl (by simp) (by simp) HL1.out HSRC1.out one_ints (by have := HLE.out; unfold maxLen; omega) (by have := HLE.out; omega) (by simp) ?_; intro v6 w6 own6 hg6 _; rw [Nat.zero_add, List.nil_append] at own6; obtain ⟨a6, c6, hv6⟩ := owns_len own6; subst hv6; have hc6 : Chg [] w5 w6 := (((Chg.refl [] w5).alloc (.cells #[] 3)).drew).grown hg6 (fun k hk => (by injection hk with hk; subst hk; exact .inr (Nat.le_refl _)))) | (refine step_append_src rfl (.tmp 65) (.tmp 69) 32 rfl w5.heap.size 3 j0 (.int .i64 0) 1 8 Try.underlying32 hj0 hy0 hy1 hy2 rfl (by decide) (.slice a6 mk c6) mk _ rfl own6 (some ⟨rb2, mk + 1, none⟩) (cur.length - (mk + 1)) (cv - (mk + 1)) ((cur.drop (mk + 1)).map fun (x : Nat) => Value.int .i64 x) rfl (by simp) (by simp) HL2.out (HSRC2.out _ hc6) one_ints (by have := HLE.out; unfold maxLen; omega) (by have := HLE.out; omega) hc6.size ?_; intro v7 w7 own7 hg7 _; obtain ⟨a7, c7, hv7⟩ := owns_len own7; subst hv7; have hc7 : Chg [] w5 w7 := hc6.grown hg7 (owns_block own6)))
                all_goals
                  have ROW7 : OwnI w5.heap.size w7 (.slice a7 (mk + (cur.length - (mk + 1))) c7) (cur.eraseIdx mk) := by
                    unfold OwnI
                    have hl : (cur.eraseIdx mk).length = mk + (cur.length - (mk + 1)) := by rw [List.length_eraseIdx_of_lt HLE.out.2.1]; have := HLE.out; omega
                    rw [hl, erase_split, List.map_append]
                    exact own7
                  have ST7 : Hid (SelAt w3 w7 us.length key ord (cur.eraseIdx mk) (acc ++ [x]) (.slice a7 (mk + (cur.length - (mk + 1))) c7) (.slice a5 (acc.length + 1) c5)) := by
                    refine Lib.hid ⟨fun y hy => HS.out.mem y (List.mem_of_mem_eraseIdx hy), ?_, owns_base ROW7 hc5.size, ?_, ?_, ?_, hc5.trans hc7⟩
                    · rw [List.length_eraseIdx_of_lt HLE.out.2.1]; have := HLE.out; have := HS.out.len; simp; omega
                    · exact owns_chg OUT5.out hc7 (by simp)
                    · intro g hg hg2
                      have h1 := own_lt OUT5.out hg2
                      rcases owns_block ROW7 g hg with hh | hh
                      · simp at hh
                      · omega
                    · have he := HS.out.eq
                      obtain ⟨nn, hnn⟩ : ∃ nn, cur.length = nn + 1 := ⟨cur.length - 1, by have := HLE.out; omega⟩
                      rw [hnn, selK] at he
                      have hm2 : minK key cur nn = mk := by rw [HMK.out, hnn]; rfl
                      rw [hm2] at he
                      have hx2 : cur.getD mk 0 = x := by rw [HX.out]; simp [HLE.out.2.1]
                      rw [hx2] at he
                      rw [List.length_eraseIdx_of_lt HLE.out.2.1, hnn, Nat.add_sub_cancel, List.append_assoc]
                      exact he
                  clear own6 own7 hg6 hg7 hc6 hc7 ROW7 hc5
                  clear e1 e2
                  go_wp2
                  go_roundw
                  case rel => exact ⟨_, _, ST7.out⟩
                  case measure => have := HLE.out; simp [lenOf]; omega

end Go.Proofs.Ytdbannnbbngckaa
