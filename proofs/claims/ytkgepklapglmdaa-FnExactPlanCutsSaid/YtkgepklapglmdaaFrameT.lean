/-
  Lemmas and contracts of single functions of this program, used by the proofs of its laws: what each call returns and what becomes of memory. Conditions: the hypotheses of each theorem.
-/
import Derived.Test.YtkgepklapglmdaaFrame
import Derived.Test.YtkgepklapglmdaaTup
import Derived.Deep.Slices
import Derived.Deep.Fields
import Derived.ChangeSame
import Derived.Lib.SmallJoins
namespace Go.Proofs.Ytkgepklapglmdaa
open Go.ChangeShapes Go.WideShapes Go.ChangeAt Go.RowKit Go.Deep Go.Joins

/-- all fields are ints -/
def fieldsInt (P : Program) (fs : Array Field) : Bool := fs.toList.all fun f => match P.underlying f.type with | some (.int .i64) => true | _ => false
theorem hint_of {P : Program} {fs : Array Field} (h : fieldsInt P fs = true) : ∀ (j : Nat) (f : Field), fs[j]? = some f → P.underlying f.type = some (.int .i64) := by
  intro j f hj
  have hm : f ∈ fs.toList := by
    rw [← Array.getElem?_toList] at hj
    exact List.mem_of_getElem? hj
  have h1 := List.all_eq_true.1 h f hm
  split at h1
  · assumption
  · cases h1
/-- one element of a slice of structs of ints, as a row of numbers -/
theorem row_of_trod {H : Type} {enc : TypeId × Value → H} {P : Program} {w : World} {sp : Nat → Bool} {hd : Bool} {e : TypeId} {fs : Array Field} {n : Nat} {a : Addr} {cs : List Value} {y : DataW H × List MemPlace}
    (he : P.underlying e = some (.struct fs)) (hone : oneCellFields P fs = true) (hint : ∀ (j : Nat) (f : Field), fs[j]? = some f → P.underlying f.type = some (.int .i64))
    (hc : w.cells? 0 a fs.size = some cs) (h : DataW.trod enc P w 0 sp hd n e cs = some y) :
    ∃ r : List Int, r.length = fs.size ∧ (∀ x ∈ r, I64 x) ∧ ∀ j, j < fs.size → w.cell? (a.add j) = some (.int .i64 (gi r j)) := by
  obtain ⟨_, hcl, hat⟩ := World.cells?_some hc
  obtain ⟨ys, n', _, _, _, hyl, hf⟩ := DataW.trod_struct he h
  have each : ∀ j, j < fs.size → ∃ x : Int, I64 x ∧ cs[j]? = some (.int .i64 x) := by
    intro j hj
    have hfj : fs[j]? = some fs[j] := Array.getElem?_eq_some_iff.2 ⟨hj, rfl⟩
    obtain ⟨ho, hk⟩ := hone_of hone j _ hfj
    have h1 := hf j _ hfj
    have h9 : (cs.drop j).take 1 = [cs[j]'(by omega)] := by rw [List.drop_eq_getElem_cons (by omega)]; rfl
    rw [ho, hk, h9, List.getElem?_eq_getElem (by omega)] at h1
    obtain ⟨x, hx, _, hw⟩ := DataW.trod_int (hint j _ hfj) h1
    refine ⟨x, I64.of_wf hw, ?_⟩
    rw [List.getElem?_eq_getElem (by omega)]
    simpa using hx
  obtain ⟨X, hX⟩ := choose_lt each
  refine ⟨(List.range fs.size).map X, by simp, fun x hx => ?_, fun j hj => ?_⟩
  · obtain ⟨j, hj, rfl⟩ := List.mem_map.1 hx
    exact (hX j (List.mem_range.1 hj)).1
  · rw [hat j hj, (hX j hj).2]
    simp [gi, hj]
theorem ts_of_trod' {H : Type} {enc : TypeId × Value → H} {P : Program} {w : World} {t e : TypeId} {fs : Array Field} {fuel : Nat} {v : Value} {y : DataW H × List MemPlace} (ht : P.underlying t = some (.slice e)) (he : P.underlying e = some (.struct fs))
    (hone : oneCellFields P fs = true) (hC : P.cellsOf e = fs.size) (hpos : 0 < fs.size) (hint : ∀ (j : Nat) (f : Field), fs[j]? = some f → P.underlying f.type = some (.int .i64))
    (h : DataW.trod enc P w 0 (fun _ => true) true fuel t [v] = some y) : ∃ A n c xss, v = .slice A n c ∧ TS w 0 w.heap.size fs.size v xss := by
  rcases open_slice ht h with ⟨hcs, _⟩ | ⟨a, len, cap, m, n, D, Pl, hcs, _, hl, hm, hmm, _, hx⟩
  · obtain rfl : v = .slice none 0 0 := by simpa using hcs
    exact ⟨none, 0, 0, [], rfl, none, 0, rfl, by simp, by simp [maxLen], ⟨by simp [flatT], fun h => absurd h (by simp)⟩, by simp⟩
  · obtain rfl : v = .slice (some a) len cap := by simpa using hcs
    simp only [if_true] at hmm
    have hmm' := hmm.symm
    subst hmm'
    rw [hC] at hx
    have each : ∀ i, i < len → ∃ r : List Int, r.length = fs.size ∧ (∀ x ∈ r, I64 x) ∧ ∀ j, j < fs.size → w.cell? ((a.add (i * fs.size)).add j) = some (.int .i64 (gi r j)) := by
      intro i hi
      obtain ⟨cs', hc, htr⟩ := hx i (by omega)
      exact row_of_trod he hone hint hc htr
    obtain ⟨X, hX⟩ := choose_lt each
    have hlen : ((List.range len).map X).length = len := by simp
    have hk : ∀ x ∈ (List.range len).map X, x.length = fs.size := by
      intro x hx'
      obtain ⟨i, hi, rfl⟩ := List.mem_map.1 hx'
      exact (hX i (List.mem_range.1 hi)).1
    refine ⟨some a, len, cap, (List.range len).map X, rfl, some a, cap, by rw [hlen], by rw [hlen]; exact hl, hm, ⟨by rw [flatT_len hk], fun h0 => ?_⟩, fun x hx' => ⟨hk x hx', ?_⟩⟩
    · rw [hlen] at h0
      have h00 := (hX 0 h0).2.2 0 (by omega)
      rw [Nat.zero_mul, show (a.add 0).add 0 = a from rfl] at h00
      have hs := spot_none h00
      refine ⟨a.block, a.off, by rw [← hs], Nat.zero_le _, World.block_lt_of_cell? w a h00, fun q u hu => ?_⟩
      have hq : q < len * fs.size := by
        have := (List.getElem?_eq_some_iff.1 hu).1
        rwa [flatT_len hk, hlen] at this
      have hi : q / fs.size < len := Nat.div_lt_of_lt_mul (by rw [Nat.mul_comm]; exact hq)
      have hj : q % fs.size < fs.size := Nat.mod_lt _ (by omega)
      have e1 : q = q / fs.size * fs.size + q % fs.size := by rw [Nat.mul_comm]; exact (Nat.div_add_mod _ _).symm
      have h1 := (hX _ hi).2.2 _ hj
      rw [hs, add_plain, add_plain, Nat.add_assoc, ← e1] at h1
      rw [h1, ← hu]
      have h2 := flatT_get hk (by rw [hlen]; exact hi) hj
      rw [← e1] at h2
      rw [h2]
      simp [gr, hi]
    · obtain ⟨i, hi, rfl⟩ := List.mem_map.1 hx'
      exact (hX i (List.mem_range.1 hi)).2.1
end Go.Proofs.Ytkgepklapglmdaa
