/- The book in memory: a head, and a row of upstreams. -/
import Derived.Test.YtdbannnbbngckaaMem
import Derived.Test.YtdbannnbbngckaaTools
import Derived.Test.YtdbannnbbngckaaRepPl
namespace Go.Proofs.Ytdbannnbbngckaa
open Go.RowKit

def upV (p : Up) : List Value := [.int .i64 p.score, .int .i64 p.agree, .int .i64 p.dissent, .int .i64 p.silent, .bool p.rests, .bool p.trial, .int .i64 p.til]
def upsV : List Up → List Value
  | [] => []
  | p :: l => upV p ++ upsV l
theorem upsV_len : ∀ us : List Up, (upsV us).length = us.length * 7
  | [] => rfl
  | p :: l => by simp only [upsV, List.length_append, upsV_len l, List.length_cons, upV, List.length_nil]; omega
theorem upsV_append : ∀ (us vs : List Up), upsV (us ++ vs) = upsV us ++ upsV vs
  | [], vs => rfl
  | p :: l, vs => by simp only [List.cons_append, upsV, upsV_append l vs, List.append_assoc]
theorem upsV_get : ∀ (us : List Up) (i j : Nat) (h : i < us.length), j < 7 → (upsV us)[i * 7 + j]? = (upV us[i])[j]?
  | p :: l, 0, j, _, hj => by
    simp only [upsV, List.getElem_cons_zero]
    rw [List.getElem?_append_left (by simp [upV]; omega)]
    congr 1
    omega
  | p :: l, i + 1, j, h, hj => by
    simp only [upsV, List.getElem_cons_succ]
    rw [List.getElem?_append_right (by simp [upV]; omega)]
    have : (i + 1) * 7 + j - (upV p).length = i * 7 + j := by simp [upV]; omega
    rw [this]
    exact upsV_get l i j (by simpa using h) hj
theorem upsV_set (v : Value) (q : Up) : ∀ (us : List Up) (i j : Nat) (h : i < us.length), j < 7 → upV q = (upV us[i]).set j v → (upsV us).set (i * 7 + j) v = upsV (us.set i q)
  | p :: l, 0, j, _, hj, hq => by
    simp only [upsV, List.set_cons_zero, List.getElem_cons_zero] at hq ⊢
    rw [List.set_append_left _ _ (by simp [upV]; omega), hq]
    congr 2
    omega
  | p :: l, i + 1, j, h, hj, hq => by
    simp only [upsV, List.set_cons_succ, List.getElem_cons_succ] at hq ⊢
    rw [List.set_append_right _ _ (by simp [upV]; omega)]
    have : (i + 1) * 7 + j - (upV p).length = i * 7 + j := by simp [upV]; omega
    rw [this, upsV_set v q l i j (by simpa using h) hj hq]

/-- The block r holds the upstreams us, from its head on. -/
def UpsAt (T : TypeId) (w : World) (r : Nat) (us : List Up) : Prop := ∃ rest, w.heap[r]? = some (.cells (upsV us ++ rest).toArray T (0, 0))
section
variable {T : TypeId} {w : World} {r : Nat} {us : List Up}
theorem UpsAt.lt (h : UpsAt T w r us) : r < w.heap.size := by obtain ⟨_, h⟩ := h; exact lt_of_block h
theorem UpsAt.chg {w' : World} {S : List Nat} (h : UpsAt T w r us) (hc : Chg S w w') (hr : r ∉ S) : UpsAt T w' r us := by
  obtain ⟨rest, h⟩ := h; exact ⟨rest, hc.keep h hr⟩
theorem UpsAt.fr (h : UpsAt T w r us) (i : Nat) : w.frozen? ⟨r, i, none⟩ = false := by obtain ⟨_, h⟩ := h; exact free_of h
theorem UpsAt.get (h : UpsAt T w r us) (i j : Nat) (hi : i < us.length) (hj : j < 7) : w.cell? ⟨r, i * 7 + j, none⟩ = (upV us[i])[j]? := by
  obtain ⟨rest, h⟩ := h
  rw [cell_of h, List.getElem?_toArray, List.getElem?_append_left (by rw [upsV_len]; omega), upsV_get us i j hi hj]
theorem UpsAt.set (h : UpsAt T w r us) (i j : Nat) (hi : i < us.length) (hj : j < 7) (v : Value) (q : Up) (hq : upV q = (upV us[i]).set j v) : UpsAt T (w.setCell ⟨r, i * 7 + j, none⟩ v) r (us.set i q) := by
  obtain ⟨rest, h⟩ := h
  refine ⟨rest, ?_⟩
  rw [heap_set h, List.setIfInBounds_toArray, List.set_append_left _ _ (by rw [upsV_len]; omega), upsV_set v q us i j hi hj hq]

/-- The upstream number i is p, cell by cell. -/
structure OneAt (w : World) (r i : Nat) (p : Up) : Prop where
  c0 : w.cell? ⟨r, i * 7, none⟩ = some (.int .i64 p.score)
  c1 : w.cell? ⟨r, i * 7 + 1, none⟩ = some (.int .i64 p.agree)
  c2 : w.cell? ⟨r, i * 7 + 2, none⟩ = some (.int .i64 p.dissent)
  c3 : w.cell? ⟨r, i * 7 + 3, none⟩ = some (.int .i64 p.silent)
  c4 : w.cell? ⟨r, i * 7 + 4, none⟩ = some (.bool p.rests)
  c5 : w.cell? ⟨r, i * 7 + 5, none⟩ = some (.bool p.trial)
  c6 : w.cell? ⟨r, i * 7 + 6, none⟩ = some (.int .i64 p.til)
theorem UpsAt.one (h : UpsAt T w r us) (i : Nat) (hi : i < us.length) : OneAt w r i us[i] :=
  ⟨h.get i 0 hi (by decide), h.get i 1 hi (by decide), h.get i 2 hi (by decide), h.get i 3 hi (by decide), h.get i 4 hi (by decide), h.get i 5 hi (by decide), h.get i 6 hi (by decide)⟩

theorem UpsAt.upd (h : UpsAt T w r us) (i j : Nat) (p q : Up) (hi : i < us.length) (hp : us[i] = p) (hj : j < 7) (v : Value) (hq : upV q = (upV p).set j v) : UpsAt T (w.setCell ⟨r, i * 7 + j, none⟩ v) r (us.set i q) := by
  subst hp; exact h.set i j hi hj v q hq
end

/-- The book: its head in block b, its row in block r. -/
structure BookAt (TB TU : TypeId) (w : World) (b r L R : Nat) (us : List Up) : Prop where
  hL : L ≤ 100
  hR : R ≤ 100000
  len : us.length ≤ 9
  ok : AllOk us
  ne : r ≠ b
  head : ∃ cap, us.length ≤ cap ∧ w.heap[b]? = some (.cells #[.int .i64 L, .int .i64 R, .slice (some ⟨r, 0, none⟩) us.length cap] TB (0, 0))
  row : UpsAt TU w r us
section
variable {TB TU : TypeId} {w : World} {b r L R : Nat} {us : List Up}
theorem BookAt.lt (h : BookAt TB TU w b r L R us) : b < w.heap.size := by obtain ⟨_, _, h⟩ := h.head; exact lt_of_block h
theorem BookAt.ltr (h : BookAt TB TU w b r L R us) : r < w.heap.size := h.row.lt
theorem BookAt.c0 (h : BookAt TB TU w b r L R us) : w.cell? ⟨b, 0, none⟩ = some (.int .i64 L) := by obtain ⟨_, _, h⟩ := h.head; exact (cell_of h).trans rfl
theorem BookAt.c1 (h : BookAt TB TU w b r L R us) : w.cell? ⟨b, 1, none⟩ = some (.int .i64 R) := by obtain ⟨_, _, h⟩ := h.head; exact (cell_of h).trans rfl
theorem BookAt.c2 (h : BookAt TB TU w b r L R us) : ∃ cap, us.length ≤ cap ∧ w.cell? ⟨b, 2, none⟩ = some (.slice (some ⟨r, 0, none⟩) us.length cap) := by obtain ⟨cap, hc, h⟩ := h.head; exact ⟨cap, hc, (cell_of h).trans rfl⟩
theorem BookAt.chg {w' : World} {S : List Nat} (h : BookAt TB TU w b r L R us) (hc : Chg S w w') (hb : b ∉ S) (hr : r ∉ S) : BookAt TB TU w' b r L R us := by
  obtain ⟨cap, h1, h2⟩ := h.head
  exact ⟨h.hL, h.hR, h.len, h.ok, h.ne, ⟨cap, h1, hc.keep h2 hb⟩, h.row.chg hc hr⟩
/-- Where the row alone has changed. -/
theorem BookAt.to {w' : World} {vs : List Up} (h : BookAt TB TU w b r L R us) (hc : Chg [r] w w') (hl : vs.length = us.length) (hok : AllOk vs) (hrow : UpsAt TU w' r vs) : BookAt TB TU w' b r L R vs := by
  obtain ⟨cap, h1, h2⟩ := h.head
  refine ⟨h.hL, h.hR, by rw [hl]; exact h.len, hok, h.ne, ⟨cap, by rw [hl]; exact h1, ?_⟩, hrow⟩
  rw [hl]
  exact hc.keep h2 (by simpa using Ne.symm h.ne)
end

end Go.Proofs.Ytdbannnbbngckaa
