/- The walks of package draw: Next, Used, Below, Copy, over a tape that lies in memory (TapeAt). -/
import Derived.Test.YteehenajchdgaaaDrawA
import Derived.Laws.EntriesVeiled
namespace Go.Proofs.Yteehenajchdgaaa.D
open Go.RowKit

/-- What the source of a tape is. -/
def srcOf (nb sb : Nat) : Value := .func (.func 39) #[] #[.pointer (some ⟨nb, 0, none⟩), .pointer (some ⟨sb, 0, none⟩)]

/-- The block b is a tape: its seed, its numbers, how many draws there were. -/
def TapeAt (w : World) (b seed : Nat) (l : List Nat) (n : Nat) : Prop :=
  ∃ nb sb v, w.heap[b]? = some (.cells #[srcOf nb sb, .int .i64 n] 76 (0, 0)) ∧ w.heap[nb]? = some (.cells #[v] 23 (0, 0)) ∧
    w.heap[sb]? = some (.cells #[.int .u64 seed] 22 (0, 0)) ∧ Nums w v l

theorem source_any (k seed : Nat) (l : List Nat) (nb sb : Nat) (v : Value) (w : World) (hn : w.heap[nb]? = some (.cells #[v] 23 (0, 0)))
    (hs : w.heap[sb]? = some (.cells #[.int .u64 seed] 22 (0, 0))) (hv : Nums w v l) (hk2 : k < 4611686018427387904) :
    Calls Try.prog 39 #[.int .i64 k, .pointer (some ⟨nb, 0, none⟩), .pointer (some ⟨sb, 0, none⟩)] w fun e w' => e = .returned (.int .u64 (drawN seed l k)) ∧ w = w' := by
  by_cases h : k < l.length
  · have := source_in k l nb sb v (.pointer (some ⟨sb, 0, none⟩)) w hn hv h
    have e : drawN seed l k = l[k] := by unfold drawN; rw [dif_pos h]
    rw [e]; exact this
  · exact source_out k seed l nb sb v w hn hs hv (by omega) hk2

theorem nums_chg {S : List Nat} {w w' : World} {v : Value} {l : List Nat} (h : Nums w v l) (hc : Chg S w w') (hS : ∀ k ∈ S, ∀ c f, w.heap[k]? ≠ some (.cells c 22 f)) : Nums w' v l := by
  obtain ⟨h1, h2, h3⟩ := h
  refine ⟨h1, h2, ?_⟩
  rcases h3 with h3 | ⟨r, c, cs, f, hv, hr, hcs⟩
  · exact .inl h3
  · exact .inr ⟨r, c, cs, f, hv, hc.keep hr fun hk => hS r hk _ _ hr, hcs⟩

/-- A tape stays while other blocks change that are no part of a tape's source. -/
theorem TapeAt.chg {S : List Nat} {w w' : World} {b seed : Nat} {l : List Nat} {n : Nat} (h : TapeAt w b seed l n) (hc : Chg S w w') (hb : b ∉ S)
    (hS : ∀ k ∈ S, ∃ c f t, w.heap[k]? = some (.cells c t f) ∧ t ≠ 22 ∧ t ≠ 23) : TapeAt w' b seed l n := by
  obtain ⟨nb, sb, v, h1, h2, h3, h4⟩ := h
  refine ⟨nb, sb, v, hc.keep h1 hb, hc.keep h2 ?_, hc.keep h3 ?_, nums_chg h4 hc ?_⟩
  · intro hk; obtain ⟨c, f, t, ht, _, hne⟩ := hS _ hk; rw [h2] at ht; cases ht; exact hne rfl
  · intro hk; obtain ⟨c, f, t, ht, hne, _⟩ := hS _ hk; rw [h3] at ht; cases ht; exact hne rfl
  · intro k hk c f he; obtain ⟨c, f, t, ht, hne, _⟩ := hS _ hk; rw [he] at ht; cases ht; exact hne rfl

/-- A tape's block is of the type of tapes. -/
theorem TapeAt.own {w : World} {b seed : Nat} {l : List Nat} {n : Nat} (h : TapeAt w b seed l n) : ∃ c f t, w.heap[b]? = some (.cells c t f) ∧ t ≠ 22 ∧ t ≠ 23 := by
  obtain ⟨nb, sb, v, h1, _⟩ := h
  exact ⟨_, _, _, h1, by decide, by decide⟩
theorem TapeAt.lt {w : World} {b seed : Nat} {l : List Nat} {n : Nat} (h : TapeAt w b seed l n) : b < w.heap.size := by
  obtain ⟨nb, sb, v, h1, _⟩ := h
  exact lt_of_block h1
/-- Another tape stays while draws are made of a tape. -/
theorem TapeAt.other {w w' : World} {b c s s' : Nat} {l l' : List Nat} {n n' : Nat} (h : TapeAt w b s l n) (h' : TapeAt w c s' l' n') (hc : Chg [c] w w') (hb : b ≠ c) : TapeAt w' b s l n :=
  h.chg hc (by simpa using hb) (by intro k hk; simp at hk; subst hk; exact h'.own)
theorem TapeAt.small {w : World} {b seed : Nat} {l : List Nat} {n : Nat} (h : TapeAt w b seed l n) : drawN seed l n < 18446744073709551616 := by
  obtain ⟨nb, sb, v, h1, _, _, _, hl, _⟩ := h
  exact drawN_lt _ _ _ hl
theorem TapeAt.alloc {w : World} {b seed : Nat} {l : List Nat} {n : Nat} (h : TapeAt w b seed l n) (o : Obj) : TapeAt (w.alloc o) b seed l n :=
  h.chg (S := []) ((Chg.refl _ _).alloc o) (by simp) (by simp)
theorem TapeAt.drew {w : World} {b seed : Nat} {l : List Nat} {n : Nat} (h : TapeAt w b seed l n) : TapeAt w.drew b seed l n := h

theorem tape_step {b seed : Nat} {l : List Nat} {n nb sb : Nat} {v : Value} {w : World} (h1 : w.heap[b]? = some (.cells #[srcOf nb sb, .int .i64 n] 76 (0, 0))) (h2 : w.heap[nb]? = some (.cells #[v] 23 (0, 0)))
    (h3 : w.heap[sb]? = some (.cells #[.int .u64 seed] 22 (0, 0))) (h4 : Nums w v l) : TapeAt (w.setCell ⟨b, 0 + 1, none⟩ (.int .i64 ((n : Int) + 1))) b seed l (n + 1) := by
  have hne : ∀ k c t f, w.heap[k]? = some (.cells c t f) → t ≠ 76 → k ≠ b := by
    intro k c t f hk ht e; subst e; rw [h1] at hk; cases hk; exact ht rfl
  refine ⟨nb, sb, v, ?_, ?_, ?_, ?_⟩
  · rw [heap_set h1]; simp
  · rw [heap_set_other _ (hne _ _ _ _ h2 (by decide))]; exact h2
  · rw [heap_set_other _ (hne _ _ _ _ h3 (by decide))]; exact h3
  · refine nums_chg (S := [b]) h4 ((Chg.refl _ _).setCell (.inl (by simp)) _) ?_
    intro k hk c f he; simp at hk; subst hk; rw [h1] at he; cases he

theorem next_any (b seed : Nat) (l : List Nat) (n : Nat) (w : World) (ht : TapeAt w b seed l n) (hn : n < 4611686018427387904) :
    Calls Try.prog 29 #[.pointer (some ⟨b, 0, none⟩)] w fun e w' => e = .returned (.int .u64 (drawN seed l n)) ∧ TapeAt w' b seed l (n + 1) ∧ Chg [b] w w' := by
  obtain ⟨nb, sb, v, h1, h2, h3, h4⟩ := ht
  have c0 : w.cell? ⟨b, 0, none⟩ = some (srcOf nb sb) := cell_of h1
  have c1 : w.cell? ⟨b, 0 + 1, none⟩ = some (.int .i64 n) := cell_of h1
  have f1 : w.frozen? ⟨b, 0 + 1, none⟩ = false := free_of h1
  have H1 := Lib.hid h1
  have H2 := Lib.hid h2
  have H3 := Lib.hid h3
  clear h1 h2 h3
  unfold srcOf at c0
  have hq : ∀ (w : World) (p q : Value), (binOp BinOp.eql 72 (.func (.func 39) #[] #[p, q]) .nilFunc).run Try.prog w = .ok (.bool false) w := fun _ _ _ => by kernel_rfl
  have hsrc := fun (m : Nat) => source_any n seed l nb sb v (w.drewN m) H2.out H3.out h4 hn
  go_enter Try.func29, Try.ntmps29
  go_wp2
  go_quiet ((go_at_call 39; exact Calls.quiet_of_same ((hsrc _).mono fun e w' h => ⟨h.1, h.2.symm⟩)))
  go_wp2
  go_ret
  exact ⟨rfl, tape_step H1.out H2.out H3.out h4, ((Chg.refl [b] w).drewN _).setCell (.inl (List.Mem.head _)) _⟩

theorem used_any (b seed : Nat) (l : List Nat) (n : Nat) (w : World) (ht : TapeAt w b seed l n) :
    Calls Try.prog 20 #[.pointer (some ⟨b, 0, none⟩)] w fun e w' => e = .returned (.int .i64 n) ∧ w = w' := by
  obtain ⟨nb, sb, v, h1, h2, h3, h4⟩ := ht
  have c1 : w.cell? ⟨b, 0 + 1, none⟩ = some (.int .i64 n) := cell_of h1
  clear h1 h2 h3 h4
  go_enter Try.func20, Try.ntmps20
  go_wp2
  go_ret
  exact ⟨rfl, rfl⟩

theorem used_nil (w : World) :
    Calls Try.prog 20 #[.pointer none] w fun e w' => e = .returned (.int .i64 0) ∧ w = w' := by
  go_enter Try.func20, Try.ntmps20
  go_wp2
  go_ret
  exact ⟨rfl, rfl⟩
theorem next_nil (w : World) :
    Calls Try.prog 29 #[.pointer none] w fun e w' => e = .returned (.int .u64 0) ∧ w = w' := by
  go_enter Try.func29, Try.ntmps29
  go_wp2
  go_ret
  exact ⟨rfl, rfl⟩
theorem copy_nil (w : World) :
    Calls Try.prog 28 #[.pointer none] w fun e w' => e = .returned (.pointer none) ∧ w = w' := by
  go_enter Try.func28, Try.ntmps28
  go_wp2
  go_ret
  exact ⟨rfl, rfl⟩
theorem copy_any (b seed : Nat) (l : List Nat) (n : Nat) (w : World) (ht : TapeAt w b seed l n) :
    Calls Try.prog 28 #[.pointer (some ⟨b, 0, none⟩)] w fun e w' => e = .returned (.pointer (some ⟨w.heap.size, 0, none⟩)) ∧ TapeAt w' w.heap.size seed l n ∧ TapeAt w' b seed l n ∧ Chg [] w w' := by
  obtain ⟨nb, sb, v, h1, h2, h3, h4⟩ := id ht
  have c0 : w.cell? ⟨b, 0, none⟩ = some (srcOf nb sb) := cell_of h1
  have c1 : w.cell? ⟨b, 0 + 1, none⟩ = some (.int .i64 n) := cell_of h1
  have H1 := Lib.hid h1
  have H2 := Lib.hid h2
  have H3 := Lib.hid h3
  clear h1 h2 h3
  unfold srcOf at c0
  go_enter Try.func28, Try.ntmps28
  go_wp2
  go_ret
  exact ⟨rfl, ⟨nb, sb, v, heap_new _ _, heap_old H2.out, heap_old H3.out, nums_chg (S := []) h4 ((Chg.refl _ _).alloc _) (by simp)⟩, ht.alloc _, (Chg.refl _ _).alloc _⟩

end Go.Proofs.Yteehenajchdgaaa.D
