/- Books behind acts, as plain data. -/
import Derived.Test.YtdbannnbbngckaaRepG
import Derived.Test.YtdbannnbbngckaaActs19
namespace Go.Proofs.Ytdbannnbbngckaa
open Go.RowKit

theorem doB_0 (L R : Nat) (us : List Up) (u n : Int) : doB L R us 0 u n = agreeI L us u := rfl
theorem doB_1 (L R : Nat) (us : List Up) (u n : Int) : doB L R us 1 u n = disI L R us u n := rfl
theorem doB_2 (L R : Nat) (us : List Up) (u n : Int) : doB L R us 2 u n = silentI us u := rfl
theorem doB_3 (L R : Nat) (us : List Up) (u n : Int) : doB L R us 3 u n = backB L n us := rfl
theorem doB_x (L R : Nat) (us : List Up) (k : Nat) (u n : Int) (h0 : k ≠ 0) (h1 : k ≠ 1) (h2 : k ≠ 2) (h3 : k ≠ 3) : doB L R us k u n = us := by simp [doB, h0, h1, h2, h3]

/-- The book behind acts. -/
def foldB (L R : Nat) (us : List Up) (acts : List ActT) : List Up := acts.foldl (fun us a => doB L R us a.k a.u a.n) us
theorem foldB_snoc (L R : Nat) (us : List Up) (acts : List ActT) (a : ActT) : foldB L R us (acts ++ [a]) = doB L R (foldB L R us acts) a.k a.u a.n := by simp [foldB]
theorem foldB_len (L R : Nat) (us : List Up) (acts : List ActT) : (foldB L R us acts).length = us.length := by
  unfold foldB
  induction acts generalizing us with
  | nil => rfl
  | cons a l ih => rw [List.foldl_cons, ih, doB_len]
theorem foldB_step (L R : Nat) (us : List Up) (acts : List ActT) (j : Nat) (h : j < acts.length) : foldB L R us (acts.take (j + 1)) = doB L R (foldB L R us (acts.take j)) acts[j].k acts[j].u acts[j].n := by
  rw [List.take_succ_eq_append_getElem h, foldB_snoc]

end Go.Proofs.Ytdbannnbbngckaa
