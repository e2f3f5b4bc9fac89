/-
  Lemmas and contracts of single functions of this program, used by the proofs of its laws: what each call returns and what becomes of memory. Conditions: the hypotheses of each theorem.
-/
import Derived.Test.YtlabekemifccaaaDoorFrameM
import Derived.Test.YtlabekemifccaaaDoorMillS
namespace Go.Proofs.YtlabekemifccaaaDoor
open Go.ChangeShapes Go.WideShapes Go.ChangeAt Go.RowKit Go.Deep Go.Joins

/-- the seven numbers of an event that is handed in -/
theorem ev_of_trod {H : Type} {enc : TypeId × Value → H} {P : Program} {w : World} {e : TypeId} {f0 f1 f2 f3 g0 g1 g2 g3 : Field} {n : Nat} {cs : List Value} {y : DataW H × List MemPlace}
    (he : P.underlying e = some (.struct #[f0, f1, f2, f3])) (hf0 : P.underlying f0.type = some (.int .i64)) (hf1 : P.underlying f1.type = some (.int .i64)) (hf2 : P.underlying f2.type = some (.struct #[g0, g1, g2, g3])) (hf3 : P.underlying f3.type = some (.int .i64))
    (ho : (f0.offset = 0 ∧ P.cellsOf f0.type = 1) ∧ (f1.offset = 1 ∧ P.cellsOf f1.type = 1) ∧ (f2.offset = 2 ∧ P.cellsOf f2.type = 4) ∧ (f3.offset = 6 ∧ P.cellsOf f3.type = 1))
    (hg : oneCellFields P #[g0, g1, g2, g3] = true) (hg0 : P.underlying g0.type = some (.int .i64)) (hg1 : P.underlying g1.type = some (.int .i64)) (hg2 : P.underlying g2.type = some (.int .i64)) (hg3 : P.underlying g3.type = some (.int .i64))
    (hcl : cs.length = 7) (h : DataW.trod enc P w 0 (fun _ => true) true n e cs = some y) :
    ∃ ev : Evt, V64 ev ∧ cs = [.int .i64 ev.k, .int .i64 ev.lb, .int .i64 ev.l, .int .i64 ev.r, .int .i64 ev.f, .int .i64 ev.t, .int .i64 ev.g] := by
  obtain ⟨y0, y1, y2, y3, m, _, _, t0, t1, t2, t3⟩ := trod_struct4 he h
  obtain ⟨⟨p0, q0⟩, ⟨p1, q1⟩, ⟨p2, q2⟩, ⟨p3, q3⟩⟩ := ho
  match cs, hcl with
  | [c0, c1, c2, c3, c4, c5, c6], _ =>
    rw [p0, q0] at t0
    rw [p1, q1] at t1
    rw [p2, q2] at t2
    rw [p3, q3] at t3
    obtain ⟨z0, z1, z2, z3, m1, _, _, s0, s1, s2, s3⟩ := trod_struct4 hf2 t2
    obtain ⟨a0, b0⟩ := hone_of hg 0 g0 rfl
    obtain ⟨a1, b1⟩ := hone_of hg 1 g1 rfl
    obtain ⟨a2, b2⟩ := hone_of hg 2 g2 rfl
    obtain ⟨a3, b3⟩ := hone_of hg 3 g3 rfl
    rw [a0, b0] at s0
    rw [a1, b1] at s1
    rw [a2, b2] at s2
    rw [a3, b3] at s3
    obtain ⟨k, e0, _, w0⟩ := DataW.trod_int hf0 t0
    obtain ⟨lb, e1, _, w1⟩ := DataW.trod_int hf1 t1
    obtain ⟨l, e2, _, w2⟩ := DataW.trod_int hg0 s0
    obtain ⟨r, e3, _, w3⟩ := DataW.trod_int hg1 s1
    obtain ⟨f, e4, _, w4⟩ := DataW.trod_int hg2 s2
    obtain ⟨t, e5, _, w5⟩ := DataW.trod_int hg3 s3
    obtain ⟨g, e6, _, w6⟩ := DataW.trod_int hf3 t3
    obtain rfl : c0 = .int .i64 k := by simpa using e0
    obtain rfl : c1 = .int .i64 lb := by simpa using e1
    obtain rfl : c2 = .int .i64 l := by simpa using e2
    obtain rfl : c3 = .int .i64 r := by simpa using e3
    obtain rfl : c4 = .int .i64 f := by simpa using e4
    obtain rfl : c5 = .int .i64 t := by simpa using e5
    obtain rfl : c6 = .int .i64 g := by simpa using e6
    exact ⟨⟨k, lb, l, r, f, t, g⟩, ⟨I64.of_wf w0, I64.of_wf w1, I64.of_wf w2, I64.of_wf w3, I64.of_wf w4, I64.of_wf w5, I64.of_wf w6⟩, rfl⟩
set_option maxRecDepth 100000 in
/-- a list of events that is handed in -/
theorem evs_of_trod {H : Type} {enc : TypeId × Value → H} {w : World} {r : Reach} {b0 : Nat} {v : Value} {d : DataW H} {p : List MemPlace}
    (_hv : Value.okWide Tryd.prog w r b0 36 v) (h : DataW.Trod enc Tryd.prog w 0 (fun _ => true) true 36 v d p) (hv1 : ∃ a n c, v = .slice a n c) :
    ∃ evs : List Evt, TS w 0 w.heap.size 7 v (evT evs) := by
  obtain ⟨a9, n9, c9, rfl⟩ := hv1
  obtain ⟨fuel, hf⟩ := h
  have hf1 : DataW.trod enc Tryd.prog w 0 (fun _ => true) true fuel 36 [.slice a9 n9 c9] = some (d, p) := by simpa [Value.cells] using hf
  rcases open_slice Tryd.underlying36 hf1 with ⟨hcs, _⟩ | ⟨a, len, cap, m, n, D, Pl, hcs, _, hl, hm, hmm, _, hx⟩
  · have h0 : (Value.slice a9 n9 c9) = .slice none 0 0 := by simpa using hcs
    rw [h0]
    exact ⟨[], none, 0, rfl, by simp [evT], by simp [maxLen], ⟨by simp [flatT, evT], fun h => absurd h (by simp [evT])⟩, by simp [evT]⟩
  · have h0 : (Value.slice a9 n9 c9) = .slice (some a) len cap := by simpa using hcs
    rw [h0]
    simp only [if_true] at hmm
    have hmm' := hmm.symm
    subst hmm'
    have hC : Tryd.prog.cellsOf 25 = 7 := by kernel_rfl
    rw [hC] at hx
    have each : ∀ i, i < len → ∃ ev : Evt, V64 ev ∧ ∀ j, j < 7 → w.cell? ((a.add (i * 7)).add j) = some (.int .i64 (gi ev.row j)) := by
      intro i hi
      obtain ⟨cs', hc, htr⟩ := hx i (by omega)
      obtain ⟨_, hcl, hat⟩ := World.cells?_some hc
      obtain ⟨ev, h1, h2⟩ := ev_of_trod Tryd.underlying25 Tryd.underlying3 Tryd.underlying3 Tryd.underlying23 Tryd.underlying3 ⟨⟨by kernel_rfl, by kernel_rfl⟩, ⟨by kernel_rfl, by kernel_rfl⟩, ⟨by kernel_rfl, by kernel_rfl⟩, ⟨by kernel_rfl, by kernel_rfl⟩⟩
        (by kernel_rfl) Tryd.underlying3 Tryd.underlying3 Tryd.underlying3 Tryd.underlying3 hcl htr
      refine ⟨ev, h1, fun j hj => ?_⟩
      rw [hat j hj, h2]
      match j, hj with
      | 0, _ => rfl
      | 1, _ => rfl
      | 2, _ => rfl
      | 3, _ => rfl
      | 4, _ => rfl
      | 5, _ => rfl
      | 6, _ => rfl
    have inh : Inhabited Evt := ⟨⟨0, 0, 0, 0, 0, 0, 0⟩⟩
    obtain ⟨X, hX⟩ := choose_lt each
    have hlen : (evT ((List.range len).map X)).length = len := by rw [evT_len]; simp
    have hk : ∀ x ∈ evT ((List.range len).map X), x.length = 7 := by
      intro x hx'
      obtain ⟨e, _, rfl⟩ := List.mem_map.1 hx'
      rfl
    refine ⟨(List.range len).map X, some a, cap, by rw [hlen], by rw [hlen]; exact hl, hm, ⟨by rw [flatT_len hk], fun h0 => ?_⟩, fun x hx' => ⟨hk x hx', ?_⟩⟩
    · rw [hlen] at h0
      have h00 := (hX 0 h0).2 0 (by omega)
      rw [Nat.zero_mul, show (a.add 0).add 0 = a from rfl] at h00
      have hs := spot_none h00
      refine ⟨a.block, a.off, by rw [← hs], Nat.zero_le _, World.block_lt_of_cell? w a h00, fun q u hu => ?_⟩
      have hq : q < len * 7 := by
        have := (List.getElem?_eq_some_iff.1 hu).1
        rwa [flatT_len hk, hlen] at this
      have hi : q / 7 < len := by omega
      have hj : q % 7 < 7 := Nat.mod_lt _ (by omega)
      have e1 : q = q / 7 * 7 + q % 7 := by omega
      have h1 := (hX _ hi).2 _ hj
      rw [hs, add_plain, add_plain, Nat.add_assoc, ← e1] at h1
      rw [h1, ← hu]
      have h2 := flatT_get hk (by rw [hlen]; exact hi) hj
      rw [← e1] at h2
      rw [h2]
      simp [gr, evT, hi]
    · obtain ⟨e, he, rfl⟩ := List.mem_map.1 hx'
      obtain ⟨i, hi, rfl⟩ := List.mem_map.1 he
      obtain ⟨h1, h2, h3, h4, h5, h6, h7⟩ := (hX i (List.mem_range.1 hi)).1
      intro y hy
      simp only [Evt.row, List.mem_cons, List.not_mem_nil, or_false] at hy
      rcases hy with rfl | rfl | rfl | rfl | rfl | rfl | rfl <;> assumption
end Go.Proofs.YtlabekemifccaaaDoor
