/-
  Lemmas and contracts of single functions of this program, used by the proofs of its laws: what each call returns and what becomes of memory. Conditions: the hypotheses of each theorem.
-/
import Derived.Test.YtlabekemifccaaaDoorXParseEvent
import Derived.Test.YtlabekemifccaaaDoorXFormatEvent
import Derived.Test.YtlabekemifccaaaDoorTxt1
import Derived.Test.YtlabekemifccaaaDoorMillY
namespace Go.Proofs.YtlabekemifccaaaDoor
open Go.RowKit
attribute [local go_sem ↓] Go.wp_at_zero Go.wp_at_succ

theorem fmtE_len (ev : List Int) : (fmtE ev).length ≤ 100 := by
  unfold fmtE
  split
  · rename_i hall
    have h1 := wrd_len (gi ev 0)
    have h2 : ∀ ns : List Int, (∀ i, i < ns.length → 0 ≤ gi ns i ∧ gi ns i ≤ 999999) → (numsT ns).length ≤ 7 * ns.length := by
      intro ns
      induction ns with
      | nil => intro _; simp [numsT]
      | cons x t ih =>
        intro h
        have h3 := ih fun i hi => by have := h (i + 1) (by simp; omega); exact this
        have h4 : 0 ≤ x ∧ x ≤ 999999 := h 0 (by simp)
        have h5 := (dec_len (n := x.toNat) (by omega)).2
        have h6 : numsT (x :: t) = (32 :: Lib.decDigits x.toNat) ++ numsT t := by simp [numsT]
        rw [h6, List.length_append, List.length_cons, List.length_cons]
        omega
    have h3 := h2 (evN ev) (allR_iff.1 hall)
    have h4 := evN_len ev
    have h5 := idxK_len (gi ev 0)
    rw [List.length_append]
    omega
  · simp
end Go.Proofs.YtlabekemifccaaaDoor
