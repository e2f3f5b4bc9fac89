/-
  Lemmas and contracts of single functions of this program, used by the proofs of its laws: what each call returns and what becomes of memory. Conditions: the hypotheses of each theorem.
-/
import Derived.Test.YtkgepklapglmdaaFrameT
import Derived.Test.YtkgepklapglmdaaMillA
namespace Go.Proofs.Ytkgepklapglmdaa
open Go.ChangeShapes Go.WideShapes Go.ChangeAt Go.RowKit Go.Deep Go.Joins

/-- the five cells of an entry that is handed in -/
def fiv (x : Ent × Value × Value) : Nat → Value
  | 0 => .int .i64 x.1.lb
  | 1 => .int .i64 x.1.W
  | 2 => .int .i64 x.1.L
  | 3 => x.2.1
  | _ => x.2.2
theorem ent_of_trod {H : Type} {enc : TypeId × Value → H} {P : Program} {w : World} {e eD eP : TypeId} {f0 f1 f2 g0 g1 g2 : Field} {fD fP : Array Field} {n : Nat} {a : Addr} {cs : List Value} {y : DataW H × List MemPlace}
    (he : P.underlying e = some (.struct #[f0, f1, f2])) (hf0 : P.underlying f0.type = some (.int .i64)) (hf1 : P.underlying f1.type = some (.struct #[g0, g1, g2])) (hf2 : P.underlying f2.type = some (.slice eP))
    (ho : (f0.offset = 0 ∧ P.cellsOf f0.type = 1) ∧ (f1.offset = 1 ∧ P.cellsOf f1.type = 3) ∧ (f2.offset = 4 ∧ P.cellsOf f2.type = 1))
    (hg : oneCellFields P #[g0, g1, g2] = true) (hg0 : P.underlying g0.type = some (.int .i64)) (hg1 : P.underlying g1.type = some (.int .i64)) (hg2 : P.underlying g2.type = some (.slice eD))
    (hD : P.underlying eD = some (.struct fD)) (oD : oneCellFields P fD = true) (cD : P.cellsOf eD = fD.size) (sD : fD.size = 5) (iD : ∀ (j : Nat) (f : Field), fD[j]? = some f → P.underlying f.type = some (.int .i64))
    (hP : P.underlying eP = some (.struct fP)) (oP : oneCellFields P fP = true) (cP : P.cellsOf eP = fP.size) (sP : fP.size = 4) (iP : ∀ (j : Nat) (f : Field), fP[j]? = some f → P.underlying f.type = some (.int .i64))
    (hc : w.cells? 0 a 5 = some cs) (h : DataW.trod enc P w 0 (fun _ => true) true n e cs = some y) :
    ∃ x : Ent × Value × Value, E64 x.1 ∧ TS w 0 w.heap.size 5 x.2.1 x.1.ds ∧ TS w 0 w.heap.size 4 x.2.2 x.1.ps ∧ ∀ j, j < 5 → w.cell? (a.add j) = some (fiv x j) := by
  obtain ⟨_, hcl, hat⟩ := World.cells?_some hc
  obtain ⟨y0, y1, y2, m, _, _, t0, t1, t2⟩ := trod_struct3 he h
  obtain ⟨⟨p0, q0⟩, ⟨p1, q1⟩, ⟨p2, q2⟩⟩ := ho
  match cs, hcl with
  | [c0, c1, c2, c3, c4], _ =>
    rw [p0, q0] at t0
    rw [p1, q1] at t1
    rw [p2, q2] at t2
    obtain ⟨z0, z1, z2, m1, _, _, s0, s1, s2⟩ := trod_struct3 hf1 t1
    obtain ⟨a0, b0⟩ := hone_of hg 0 g0 rfl
    obtain ⟨a1, b1⟩ := hone_of hg 1 g1 rfl
    obtain ⟨a2, b2⟩ := hone_of hg 2 g2 rfl
    rw [a0, b0] at s0
    rw [a1, b1] at s1
    rw [a2, b2] at s2
    obtain ⟨lb, e0, _, w0⟩ := DataW.trod_int hf0 t0
    obtain ⟨W, e1, _, w1⟩ := DataW.trod_int hg0 s0
    obtain ⟨L, e2, _, w2⟩ := DataW.trod_int hg1 s1
    obtain ⟨A3, n3, k3, ds, e3, h3⟩ := ts_of_trod' hg2 hD oD cD (by omega) iD (v := c3) (by simpa using s2)
    obtain ⟨A4, n4, k4, ps, e4, h4⟩ := ts_of_trod' hf2 hP oP cP (by omega) iP (v := c4) (by simpa using t2)
    rw [sD] at h3
    rw [sP] at h4
    obtain rfl : c0 = .int .i64 lb := by simpa using e0
    obtain rfl : c1 = .int .i64 W := by simpa using e1
    obtain rfl : c2 = .int .i64 L := by simpa using e2
    refine ⟨(⟨lb, W, L, ds, ps⟩, c3, c4), ⟨I64.of_wf w0, I64.of_wf w1, I64.of_wf w2⟩, h3, h4, fun j hj => ?_⟩
    rw [hat j (by omega)]
    match j, hj with
    | 0, _ => rfl
    | 1, _ => rfl
    | 2, _ => rfl
    | 3, _ => rfl
    | 4, _ => rfl
theorem es_of_trod' {H : Type} {enc : TypeId × Value → H} {P : Program} {w : World} {t e eD eP : TypeId} {f0 f1 f2 g0 g1 g2 : Field} {fD fP : Array Field} {fuel : Nat} {v : Value} {y : DataW H × List MemPlace}
    (ht : P.underlying t = some (.slice e)) (hC : P.cellsOf e = 5) (he : P.underlying e = some (.struct #[f0, f1, f2])) (hf0 : P.underlying f0.type = some (.int .i64)) (hf1 : P.underlying f1.type = some (.struct #[g0, g1, g2])) (hf2 : P.underlying f2.type = some (.slice eP))
    (ho : (f0.offset = 0 ∧ P.cellsOf f0.type = 1) ∧ (f1.offset = 1 ∧ P.cellsOf f1.type = 3) ∧ (f2.offset = 4 ∧ P.cellsOf f2.type = 1))
    (hg : oneCellFields P #[g0, g1, g2] = true) (hg0 : P.underlying g0.type = some (.int .i64)) (hg1 : P.underlying g1.type = some (.int .i64)) (hg2 : P.underlying g2.type = some (.slice eD))
    (hD : P.underlying eD = some (.struct fD)) (oD : oneCellFields P fD = true) (cD : P.cellsOf eD = fD.size) (sD : fD.size = 5) (iD : ∀ (j : Nat) (f : Field), fD[j]? = some f → P.underlying f.type = some (.int .i64))
    (hP : P.underlying eP = some (.struct fP)) (oP : oneCellFields P fP = true) (cP : P.cellsOf eP = fP.size) (sP : fP.size = 4) (iP : ∀ (j : Nat) (f : Field), fP[j]? = some f → P.underlying f.type = some (.int .i64))
    (h : DataW.trod enc P w 0 (fun _ => true) true fuel t [v] = some y) : ∃ A n c es, v = .slice A n c ∧ ES w 0 w.heap.size v es := by
  rcases open_slice ht h with ⟨hcs, _⟩ | ⟨a, len, cap, m, n, D, Pl, hcs, _, hl, hm, hmm, _, hx⟩
  · obtain rfl : v = .slice none 0 0 := by simpa using hcs
    exact ⟨none, 0, 0, [], rfl, none, 0, [], rfl, by simp, by simp [maxLen], ⟨by simp, fun h => absurd h (by simp)⟩, fun k hk => absurd hk (by simp)⟩
  · obtain rfl : v = .slice (some a) len cap := by simpa using hcs
    simp only [if_true] at hmm
    have hmm' := hmm.symm
    subst hmm'
    rw [hC] at hx
    have each : ∀ i, i < len → ∃ x : Ent × Value × Value, E64 x.1 ∧ TS w 0 w.heap.size 5 x.2.1 x.1.ds ∧ TS w 0 w.heap.size 4 x.2.2 x.1.ps ∧ ∀ j, j < 5 → w.cell? ((a.add (i * 5)).add j) = some (fiv x j) := by
      intro i hi
      obtain ⟨cs', hc, htr⟩ := hx i (by omega)
      exact ent_of_trod he hf0 hf1 hf2 ho hg hg0 hg1 hg2 hD oD cD sD iD hP oP cP sP iP hc htr
    have inh : Inhabited (Ent × Value × Value) := ⟨(Ent.nil, undef, undef)⟩
    obtain ⟨X, hX⟩ := choose_lt each
    have hlen : ((List.range len).map fun i => (X i).1).length = len := by simp
    have hge : ∀ k, k < len → ge ((List.range len).map fun i => (X i).1) k = (X k).1 := fun k hk => by simp [ge, hk]
    refine ⟨some a, len, cap, (List.range len).map fun i => (X i).1, rfl, some a, cap, (List.range (len * 5)).map fun q => fiv (X (q / 5)) (q % 5), by rw [hlen], by rw [hlen]; exact hl, hm, ⟨by simp, fun h0 => ?_⟩, fun k hk => ?_⟩
    · rw [hlen] at h0
      have h00 := (hX 0 h0).2.2.2 0 (by omega)
      rw [Nat.zero_mul, show (a.add 0).add 0 = a from rfl] at h00
      have hs := spot_none h00
      refine ⟨a.block, a.off, by rw [← hs], Nat.zero_le _, World.block_lt_of_cell? w a h00, fun q u hu => ?_⟩
      have hq : q < len * 5 := by
        have := (List.getElem?_eq_some_iff.1 hu).1
        simpa using this
      have hi : q / 5 < len := by omega
      have h1 := (hX _ hi).2.2.2 (q % 5) (Nat.mod_lt _ (by omega))
      rw [hs, add_plain, add_plain, Nat.add_assoc, show q / 5 * 5 + q % 5 = q by omega] at h1
      rw [h1, ← hu]
      simp [hq]
    · rw [hlen] at hk
      rw [hge k hk]
      obtain ⟨h1, h2, h3, _⟩ := hX k hk
      have at_ : ∀ j, j < 5 → ((List.range (len * 5)).map fun q => fiv (X (q / 5)) (q % 5))[k * 5 + j]? = some (fiv (X k) j) := by
        intro j hj
        have hq : k * 5 + j < len * 5 := by omega
        have e1 : (k * 5 + j) / 5 = k := by omega
        have e2 : (k * 5 + j) % 5 = j := by omega
        simp [hq, e1, e2]
      exact ⟨h1, _, _, ⟨at_ 0 (by omega), at_ 1 (by omega), at_ 2 (by omega), at_ 3 (by omega), at_ 4 (by omega)⟩, h2, h3⟩
set_option maxRecDepth 100000 in
/-- a mill that is handed in -/
theorem mill_of_trod {H : Type} {enc : TypeId × Value → H} {w : World} {r : Reach} {b0 : Nat} {v : Value} {d : DataW H} {p : List MemPlace}
    (hv : Value.okWide Try.prog w r b0 24 v) (h : DataW.Trod enc Try.prog w 0 (fun _ => true) true 24 v d p) :
    ∃ (A : Option Addr) (n c : Nat) (es : List Ent) (a b z : Int), v = .agg #[.slice A n c, .int .i64 a, .int .i64 b, .int .i64 z] ∧ I64 a ∧ I64 b ∧ I64 z ∧ ES w 0 w.heap.size (.slice A n c) es := by
  obtain ⟨v0, v1, v2, v3, y0, y1, y2, y3, n, rfl, _, _, g0, g1, g2, g3⟩ := open_agg4 Try.underlying24 (by kernel_rfl) (by kernel_rfl) hv h
  obtain ⟨a, e1, _, w1⟩ := DataW.trod_int Try.underlying3 g1
  obtain ⟨b, e2, _, w2⟩ := DataW.trod_int Try.underlying3 g2
  obtain ⟨z, e3, _, w3⟩ := DataW.trod_int Try.underlying3 g3
  obtain ⟨A, m, c, es, e0, h5⟩ := es_of_trod' Try.underlying22 (by kernel_rfl) Try.underlying96 Try.underlying3 Try.underlying93 Try.underlying94 ⟨⟨by kernel_rfl, by kernel_rfl⟩, ⟨by kernel_rfl, by kernel_rfl⟩, ⟨by kernel_rfl, by kernel_rfl⟩⟩ (by kernel_rfl) Try.underlying3 Try.underlying3 Try.underlying91
    Try.underlying164 (by kernel_rfl) (by kernel_rfl) rfl (hint_of (by kernel_rfl)) Try.underlying152 (by kernel_rfl) (by kernel_rfl) rfl (hint_of (by kernel_rfl)) g0
  obtain rfl : v1 = .int .i64 a := by simpa using e1
  obtain rfl : v2 = .int .i64 b := by simpa using e2
  obtain rfl : v3 = .int .i64 z := by simpa using e3
  subst e0
  exact ⟨A, m, c, es, a, b, z, rfl, I64.of_wf w1, I64.of_wf w2, I64.of_wf w3, h5⟩
end Go.Proofs.Ytkgepklapglmdaa
