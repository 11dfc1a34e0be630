/- What is over and begun again, as the functions answer it. -/
import Derived.Test.YtopkbchjlifflaaFlN
import Derived.Test.YtopkbchjlifflaaFlPl3
namespace Go.Proofs.Ytopkbchjlifflaa

section
variable {n m : Nat} {L : List Fl} {k s : Nat} {f : Fl} {a : Nat} (h : AgainF n L k s f a)
include h
theorem AgainF.use : useF L (s : Int) = true := by unfold useF; simp [h.used]
theorem AgainF.quest : f.q = questF L (s : Int) := by unfold questF; rw [h.use]; simp [qsF, h.get]
theorem AgainF.wait : f.ws.length = waitsF L (s : Int) := by unfold waitsF; rw [h.use]; simp [wsF, h.get]
theorem AgainF.err : 0 = errE L (s : Int) := by unfold errE; rw [h.use]; rfl
theorem AgainF.ended : endF L s = endA L (s : Int) := by unfold endA; rw [h.use]; rfl
theorem AgainF.told : f.ws = goneF L (s : Int) := by unfold goneF; rw [h.use]; simp [wsF, h.get]
theorem AgainF.unuse : useF (endF L s) (s : Int) = false := by unfold useF; simp [h.free]
theorem AgainF.unfound : false = findIs (endF L s) f.q := by unfold findIs; rw [h.fold, h.gone]; simp
theorem AgainF.unfoundAt : 0 = findAt (endF L s) f.q := by unfold findAt; rw [h.fold, h.gone]; simp
theorem AgainF.err2 : 6 = errE (endF L s) (s : Int) := by unfold errE; rw [h.unuse]; rfl
theorem AgainF.ended2 : endF L s = endA (endF L s) (s : Int) := by unfold endA; rw [h.unuse]; rfl
theorem AgainF.told2 : [] = goneF (endF L s) (s : Int) := by unfold goneF; rw [h.unuse]; rfl
theorem AgainF.joined : joinF (endF L s) m (s : Int) ⟨0, []⟩ = (endF L s, 6) := by unfold joinF; rw [h.unuse]; rfl
theorem AgainF.begun : beginF (endF L s) n f.q = (endF L s ++ [⟨a, f.q, []⟩], a, 0) := by unfold beginF; rw [h.may, h.fold, h.gone, h.fr]; rfl
theorem AgainF.none2 : 0 = waitsF (endF L s ++ [⟨a, f.q, []⟩]) (a : Int) := by
  unfold waitsF
  split
  · simp only [Int.toNat_natCast, wsF]
    rw [getF_new (f := ⟨a, f.q, []⟩) h.new]
    rfl
  · rfl
theorem AgainF.rest2 : slotsF (endF L s ++ [⟨a, f.q, []⟩]) = (slotsF L).take k ++ (slotsF L).drop (k + 1) ++ [a] := by rw [slotsF_append, h.rest]
end

end Go.Proofs.Ytopkbchjlifflaa
