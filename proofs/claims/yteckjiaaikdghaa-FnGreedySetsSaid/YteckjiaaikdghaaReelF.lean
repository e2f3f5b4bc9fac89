/-
  Lemmas and contracts of single functions of this program, used by the proofs of its laws: what each call returns and what becomes of memory. Conditions: the hypotheses of each theorem.
-/
import Derived.Test.YteckjiaaikdghaaReelE
import Derived.Test.YteckjiaaikdghaaReelV
namespace Go.Proofs.Yteckjiaaikdghaa
open Go.RowKit
attribute [local go_sem ↓] Go.wp_at_zero Go.wp_at_succ

def mT (d p : List Int) : Bool := meetB (gi d 0) (gi d 1) (gi d 2) (gi d 3) (gi p 0) (gi p 1) (gi p 2) (gi p 3)
def worstL (ds : List (List Int)) (p : List Int) : Int := ds.foldl (fun m d => if mT d p = true then max m (gi d 4) else m) 0
theorem worst_succ {ds : List (List Int)} {p : List Int} {k : Nat} (h : k < ds.length) : worstL (ds.take (k + 1)) p = if mT (gr ds k) p = true then max (worstL (ds.take k) p) (gi (gr ds k) 4) else worstL (ds.take k) p := by
  unfold worstL; rw [take_gr h, List.foldl_append]; rfl
theorem meetB_comm (a b c d a' b' c' d' : Int) : meetB a b c d a' b' c' d' = meetB a' b' c' d' a b c d := by
  rw [Bool.eq_iff_iff, meetB_iff, meetB_iff]; omega
end Go.Proofs.Yteckjiaaikdghaa
