/-
  Texts merged into one: what each function does, and plain lemmas. No condition.
-/
import Derived.Test.YtkgepklapglmdaaGreatDoorWords
import Derived.Laws.CopyOwn
import Derived.Lib.AppendZeros
import Derived.Lib.SliceRun
import Derived.Lib.Overlaps
import Derived.Test.YtkgepklapglmdaaGreatDoorMOX
import Derived.Test.YtkgepklapglmdaaGreatDoorMillD
import Derived.Deep.RegionLaw
import Derived.IntWalk
namespace Go.Proofs.YtkgepklapglmdaaGreatDoor
open Go.RowKit

section
variable {P : Program}
/-- 'copy(d, s)' of elements of several cells, into a row that is known whole -/
theorem run_copyK (w : World) (dT sT ty elem : TypeId) (i : TypeInfo) (g o dLen dCap : Nat) (a : Addr) (sLen sCap : Nat) (cur : Array Value) (t : TypeId) (cs : List Value)
    (hu : P.underlying dT = some (.slice elem)) (hi : P.info? elem = some i)
    (hg : w.heap[g]? = some (.cells cur t (0, 0))) (m : Nat) (hm : Nat.min sLen dLen = m) (hn : cs.length = m * i.size)
    (hsrc : ∀ j v, cs[j]? = some v → w.cell? (a.add j) = some v) (hfit : o + cs.length ≤ cur.size) (h1 : ∀ v ∈ cs, v.oneCell' = true) :
    (Builtin.copy_ #[dT, sT] ty #[.slice (some ⟨g, o, none⟩) dLen dCap, .slice (some a) sLen sCap]).run P w =
      .ok (goInt m) (w.setRow g (cur.toList.take o ++ cs ++ cur.toList.drop (o + cs.length)).toArray) := by
  have hl := run_loadCells_list (P := P) w a cs hsrc
  have hst := run_storeCells_at P g o t cs 0 cur w hg (by simpa using hfit) h1
  simp only [Nat.add_zero] at hst
  simp [Builtin.copy_, run_underlying hu, Builtin.lenOf, Builtin.firstCells, sizeOf, typeInfo, hi, hm, ← hn, hl, hst]
/-- 'clear(s)' of elements of several cells -/
theorem run_clearK (w : World) (t e ty : TypeId) (i : TypeInfo) (z : Value) (ht : P.underlying t = some (.slice e)) (hi : P.info? e = some i) (hz : i.zero = some z)
    (g o n c : Nat) (cur : Array Value) (tt : TypeId) (hg : w.heap[g]? = some (.cells cur tt (0, 0))) (hn : 0 < n) (zs : List Value) (hzs : zs = (Builtin.zeroCells z.cells n).toList)
    (hfit : o + zs.length ≤ cur.size) (h1 : ∀ v ∈ zs, v.oneCell' = true) :
    (Builtin.clear_ #[t] ty #[.slice (some ⟨g, o, none⟩) n c]).run P w = .ok (.tuple #[]) (w.setRow g (cur.toList.take o ++ zs ++ cur.toList.drop (o + zs.length)).toArray) := by
  have hst := run_storeCells_at P g o tt zs 0 cur w hg (by simpa using hfit) h1
  simp only [Nat.add_zero] at hst
  obtain ⟨m, rfl⟩ : ∃ m, n = m + 1 := ⟨n - 1, by omega⟩
  simp [Builtin.clear_, run_underlying ht, zeroValue, typeInfo, hi, hz, ← hzs, hst]
/-- 'append(s, make([]T, n)...)', no room: a new row -/
theorem run_append_growZ (w : World) (t tn ty e : TypeId) (i : TypeInfo) (z : Value) (k kn : IntKind) (ht : P.underlying t = some (.slice e)) (htn : P.underlying tn = some (.int kn)) (hi : P.info? e = some i) (hz : i.zero = some z)
    (b : Addr) (sLen sCap : Nat) (olds : List Value) (hlo : olds.length = sLen * i.size) (holds : ∀ j v, olds[j]? = some v → w.cell? (b.add j) = some v)
    (n : Nat) (h0 : 0 < n) (hs : 0 < i.size) (hg : sCap < sLen + n) (h63 : ((sLen + n : Nat) : Int) ≤ 9223372036854775807) (hfit : (sLen + n) * i.bytes ≤ 140737488355328) :
    (Builtin.append_ #[t, tn] ty #[.slice (some b) sLen sCap, .int k n]).run P w =
      .ok (.slice (some ⟨w.heap.size, 0, none⟩) (sLen + n) (grownCap w (sLen + n) sCap e))
        (w.drew.alloc (.cells (olds.toArray ++ Builtin.zeroCells z.cells n ++ Builtin.zeroCells z.cells (grownCap w (sLen + n) sCap e - (sLen + n))) e)) := by
  have hn : ¬ (sLen + n ≤ sCap) := by omega
  have hw : IntKind.i64.wrap (n : Int) = n := by rw [IntKind.wrap_i64]; omega
  have h63' : ¬ (9223372036854775807 < ((sLen : Int) + (n : Int))) := by omega
  have hfit2 := growslice_fits hg hfit
  have h48' : ¬ (281474976710656 < Builtin.nextslicecap (sLen + n) sCap * i.bytes) := by omega
  have hni : n * i.bytes ≤ 140737488355328 := Nat.le_trans (Nat.mul_le_mul_right _ (by omega)) hfit
  have h48i : ¬ (281474976710656 < (n : Int) * (i.bytes : Int)) := by
    rw [← Int.natCast_mul]
    omega
  have hneg : ¬ ((n : Int) < 0) := by omega
  have hns : ¬ (n * i.size = 0) := Nat.mul_ne_zero (by omega) (by omega)
  have hfo := run_firstCells_some (P := P) w.drew i.size sLen b sLen sCap olds hlo (by simpa using holds)
  simp [Builtin.append_, run_underlying ht, run_underlying htn, sizeOf, typeInfo, zeroValue, hi, hz, asInt, asIntOf, hw, hn, hneg, hns, h63', h48', h48i, Question.forced, hfo, newRow, grownCap]
/-- an operation of the builtins whose run is known -/
theorem wp_copy_run1 (w : World) {o : Oper} {a : Act} {K : Act → World → Prop} {Q : Exit → Act → World → Prop} (d s : Operand) (t t' : TypeId)
    (ho : o.op = .call { callee := .builtin .copy, args := #[d, s], argTypes := #[t, t'] }) (v u : Value) (hd : a.eval d = v) (hs : a.eval s = u) {v' : Value} {w' : World}
    (hr : (Builtin.copy_ #[t, t'] o.type #[v, u]).run P w = .ok v' w') (h : K (a.put o.dst v') w') : o.wp P a w K Q := by
  unfold Oper.wp execOp
  simp only [ho, resolve, invoke, builtin, Sem.run_bind, Sem.run_pure, Result.andThen_ok, List.map_toArray, List.map_cons, List.map_nil, hd, hs, hr]
  exact h
theorem wpList_copy_run1 (w : World) {ops : Array Oper} {rest : List Oper} {o : Oper} {a : Act} {Q : Exit → Act → World → Prop} (hgd : o.guard = none) (d s : Operand) (t t' : TypeId)
    (ho : o.op = .call { callee := .builtin .copy, args := #[d, s], argTypes := #[t, t'] }) (v u : Value) (hd : a.eval d = v) (hs : a.eval s = u) {v' : Value} {w' : World}
    (hr : (Builtin.copy_ #[t, t'] o.type #[v, u]).run P w = .ok v' w') (h : wpList P ops Q rest (a.put o.dst v') w') : wpList P ops Q (o :: rest) a w :=
  wpList_plain hgd fun _ hK => wp_copy_run1 w d s t t' ho v u hd hs hr (hK _ _ h)
theorem step_copy_run1 {ops : Array Oper} {o : Oper} {a : Act} {w : World} {K : Act → World → Prop} {Q : Exit → Act → World → Prop} {E : Prop}
    (hg : o.guard = none) (d x : Operand) (dT sT : TypeId) (hop : o.op = Op.call { callee := Callee.builtin Builtin.copy, args := #[d, x], argTypes := #[dT, sT] })
    (v u : Value) (hd : a.eval d = v) (hx : a.eval x = u) {v' : Value} {w' : World} (hr : (Builtin.copy_ #[dT, sT] o.type #[v, u]).run P w = .ok v' w') (hK : K (a.put o.dst v') w') :
    if Region.wanted o (yielded ops a.tmps) = true then Oper.wp P o a w K Q else E := by
  have hw : Region.wanted o (yielded ops a.tmps) = true := by simp [Region.wanted, hg]
  rw [if_pos hw]
  exact wp_copy_run1 w d x dT sT hop v u hd hx hr hK
theorem step_append_run1 {ops : Array Oper} {o : Oper} {a : Act} {w : World} {K : Act → World → Prop} {Q : Exit → Act → World → Prop} {E : Prop}
    (hg : o.guard = none) (d x : Operand) (dT sT : TypeId) (hop : o.op = Op.call { callee := Callee.builtin Builtin.append, args := #[d, x], argTypes := #[dT, sT] })
    (v u : Value) (hd : a.eval d = v) (hx : a.eval x = u) {v' : Value} {w' : World} (hr : (Builtin.append_ #[dT, sT] o.type #[v, u]).run P w = .ok v' w') (hK : K (a.put o.dst v') w') :
    if Region.wanted o (yielded ops a.tmps) = true then Oper.wp P o a w K Q else E := by
  have hw : Region.wanted o (yielded ops a.tmps) = true := by simp [Region.wanted, hg]
  rw [if_pos hw]
  exact Lib.wp_append_run w d x dT sT hop v u hd hx v' w' hr hK
end
/-- the cells of an address within a row -/
theorem add_row (g o j : Nat) : (⟨g, o, none⟩ : Addr).add j = ⟨g, o + j, none⟩ := by unfold Addr.add; split <;> simp_all
theorem row_src {w : World} {g : Nat} {cur : Array Value} {t : TypeId} (hg : w.heap[g]? = some (.cells cur t (0, 0))) {o : Nat} {cs : List Value} (h : ∀ j v, cs[j]? = some v → cur.toList[o + j]? = some v) : ∀ j v, cs[j]? = some v → w.cell? ((⟨g, o, none⟩ : Addr).add j) = some v := fun j v hj => by
  rw [add_row, cell_of_row w g (o + j) cur t (0, 0) hg, ← Array.getElem?_toList]
  exact h j v hj
end Go.Proofs.YtkgepklapglmdaaGreatDoor

namespace Go.Proofs.YtkgepklapglmdaaGreatDoor
open Go.RowKit
attribute [local go_sem ↓] Go.wp_at_zero Go.wp_at_succ

/-- the zero entry's cells -/
def zE : List Value := [.int .i64 0, .int .i64 0, .int .i64 0, .slice none 0 0, .slice none 0 0]
theorem zE_one : (Builtin.zeroCells (Value.cells (.agg #[.int .i64 0, .int .i64 0, .int .i64 0, .slice none 0 0, .slice none 0 0])) 1).toList = zE := by first | kernel_rfl | (simp [Builtin.zeroCells, zE, Value.cells]; done) | (unfold Builtin.zeroCells zE; simp [Value.cells, Array.range, Array.ofFn, Array.ofFn.go]) | decide
theorem infoE : ∃ i, Tryz.prog.info? 58 = some i ∧ i.zero = some (.agg #[.int .i64 0, .int .i64 0, .int .i64 0, .slice none 0 0, .slice none 0 0]) ∧ i.size = 5 ∧ i.bytes = 72 := by
  obtain ⟨i, h1, h2, h3, h4⟩ := info_parts SlEntry.hi
  exact ⟨i, h1, h2, h3, h4⟩
set_option maxRecDepth 100000 in
set_option maxHeartbeats 4000000 in
theorem DeleteE_any (base c p i : Nat) (A : Option Addr) (cs : List Value) (w : World) (h : w.ownsRow base 58 5 (.slice A (p + 1) c) (p + 1) cs) (hi : i ≤ p) (hn : p ≤ 1000) (h1 : ∀ u ∈ cs, u.oneCell' = true) :
    Calls Tryz.prog 88 #[.slice A (p + 1) c, .int .i64 i, .int .i64 (i + 1)] w fun e w' =>
      e = .returned (.slice A p c) ∧ w'.ownsRow base 58 5 (.slice A p c) p (cs.take (i * 5) ++ cs.drop ((i + 1) * 5)) ∧ w.grownBy w' (Value.slice A (p + 1) c).ownBlock := by
  obtain ⟨hl, hv⟩ := h
  rcases hv with ⟨e, _⟩ | ⟨g, cap, cur, e, hb, hg, hc, hm, hsz, ht⟩
  · cases e
  obtain ⟨rfl, rfl⟩ : A = some ⟨g, 0, none⟩ ∧ c = cap := by
    injection e with e1 e2 e3; exact ⟨e1, e3⟩
  clear e
  unfold maxLen at hm
  obtain ⟨i0, hi0, hz0, hzs, hzb⟩ := infoE
  obtain ⟨news, hnews⟩ : ∃ x, x = cs.drop ((i + 1) * 5) := ⟨_, rfl⟩
  have hnl : news.length = (p - i) * 5 := by rw [hnews, List.length_drop, hl]; omega
  have hget : ∀ (o j : Nat) (v : Value), (cs.drop o)[j]? = some v → cur.toList[o + j]? = some v := fun o j v hj => by
    rw [← ht, List.getElem?_drop] at hj
    rw [List.getElem?_take] at hj
    split at hj
    · exact hj
    · cases hj
  have hcl : cur.toList.length = c * 5 := by rw [Array.length_toList]; exact hsz
  obtain ⟨cur1, hcur1⟩ : ∃ x : List Value, x = cur.toList.take (i * 5) ++ news ++ cur.toList.drop (i * 5 + news.length) := ⟨_, rfl⟩
  have hc1l : cur1.length = c * 5 := by rw [hcur1]; simp only [List.length_append, List.length_take, List.length_drop, hcl]; omega
  have hcur1t : cur1.take (p * 5) = cs.take (i * 5) ++ cs.drop ((i + 1) * 5) := by
    rw [hcur1, ← hnews]
    rw [List.take_append_of_le_length (by simp only [List.length_append, List.length_take, hcl]; omega), List.take_of_length_le (by simp only [List.length_append, List.length_take, hcl]; omega)]
    congr 1
    rw [← ht, List.take_take, Nat.min_eq_left (by omega)]
  have hrun1 : ∀ (a : Addr) (m2 : Nat) ty, (i + 1 = p + 1 ∨ a = ⟨g, 0 + (i + 1) * 5, none⟩) → (Builtin.append_ #[23, 23] ty #[.slice (some ⟨g, 0, none⟩) i c, .slice (some a) (p - i) m2]).run Tryz.prog w.drew = .ok (.slice (some ⟨g, 0, none⟩) p c) (w.drew.setRow g cur1.toArray) := by
    intro a m2 ty ha
    have hr := run_append_room (P := Tryz.prog) w.drew 23 ty 58 i0 SlEntry.ht hi0 g i c cur hg a (p - i) m2 news (by rw [hzs]; exact hnl) (by
      intro j u hj
      rcases ha with ha | ha
      · have : news.length = 0 := by omega
        rw [List.eq_nil_of_length_eq_zero this] at hj
        simp at hj
      · subst ha
        refine row_src (w := w.drew) hg (fun j v hj => ?_) j u hj
        rw [Nat.zero_add]
        exact hget _ j v (by rw [← hnews]; exact hj)) (fun u hu => h1 u (by rw [hnews] at hu; exact List.mem_of_mem_drop hu)) (by omega) (by rw [hzs, hnl, hsz]; omega)
    rw [hr, show i + (p - i) = p by omega, hzs, hcur1]
  have hg1 : (w.drew.setRow g cur1.toArray).heap[g]? = some (.cells cur1.toArray 58 (0, 0)) := setRow_heap w.drew g cur cur1.toArray _ _ hg
  have hrun2 : ∀ ty (c2 : Nat), (Builtin.clear_ #[23] ty #[.slice (some ⟨g, 0 + p * 5, none⟩) 1 c2]).run Tryz.prog (w.drew.setRow g cur1.toArray) = .ok (.tuple #[]) ((w.drew.setRow g cur1.toArray).setRow g (cur1.take (p * 5) ++ zE ++ cur1.drop (p * 5 + 5)).toArray) := by
    intro ty c2
    have hr := run_clearK (P := Tryz.prog) (w.drew.setRow g cur1.toArray) 23 58 ty i0 _ SlEntry.ht hi0 hz0 g (0 + p * 5) 1 c2 cur1.toArray 58 hg1 (by omega) zE zE_one.symm (by simp [zE, hc1l]; omega) (by simp [zE, Value.oneCell'])
    rw [hr, Nat.zero_add]
    simp [zE]
  have Hfin := Lib.hid (show ((w.drew.setRow g cur1.toArray).setRow g (cur1.take (p * 5) ++ zE ++ cur1.drop (p * 5 + 5)).toArray).ownsRow base 58 5 (.slice (some ⟨g, 0, none⟩) p c) p (cs.take (i * 5) ++ cs.drop ((i + 1) * 5)) ∧ w.grownBy ((w.drew.setRow g cur1.toArray).setRow g (cur1.take (p * 5) ++ zE ++ cur1.drop (p * 5 + 5)).toArray) (some g) from by
    refine ⟨⟨by rw [← hnews]; simp only [List.length_append, List.length_take, hl, hnl]; omega, .inr ⟨g, c, _, rfl, hb, setRow_heap _ g _ _ _ _ hg1, by omega, by unfold maxLen; omega, ?_, ?_⟩⟩, ?_⟩
    · simp only [List.size_toArray, List.length_append, List.length_take, List.length_drop, hc1l, zE, List.length_cons, List.length_nil]; omega
    · rw [List.append_assoc, List.take_append_of_le_length (by simp only [List.length_take, hc1l]; omega), List.take_take, Nat.min_self, hcur1t]
    · exact ⟨rfl, rfl, rfl, by simp, fun k _ hk => (setRow_other _ g k _ (fun e => hk (by simp [e]))).trans (setRow_other _ g k _ (fun e => hk (by simp [e])))⟩)
  have Hrun1 := Lib.hid hrun1
  have Hrun2 := Lib.hid hrun2
  obtain ⟨W1, hW1⟩ : ∃ W1, W1 = w.drew.setRow g cur1.toArray := ⟨_, rfl⟩
  rw [← hW1] at Hrun1 Hrun2 Hfin
  obtain ⟨W2, hW2⟩ : ∃ W2, W2 = W1.setRow g (cur1.take (p * 5) ++ zE ++ cur1.drop (p * 5 + 5)).toArray := ⟨_, rfl⟩
  rw [← hW2] at Hrun2 Hfin
  clear hrun1 hrun2 hg1 hcur1t hc1l hcl hget hnl hW1 hW2 hcur1 ht hsz hg hz0 hzs hzb hi0 hnews h1 hl
  have hii : ¬ (i : Int) = (i : Int) + 1 := by omega
  have hip : (i : Int) + 1 ≤ (p : Int) + 1 := by omega
  have hpp : (p : Int) ≤ (p : Int) + 1 := by omega
  have hcp : ¬ c = p := by omega
  have hic : i ≤ c := by omega
  have hic0 : (0 : Int) ≤ (i : Int) + 1 := by omega
  have hic1 : (i : Int) ≤ (i : Int) + 1 := by omega
  by_cases hci : c = i + 1
  · have hpi : p = i := by omega
    subst hci
    subst hpi
    have Hr := Lib.hid (fun ty => Hrun1.out ⟨g, 0, none⟩ 0 ty (.inl rfl))
    rw [show p - p = 0 from Nat.sub_self p] at Hr
    go_enter Tryz.func88, Tryz.ntmps88
    go_wp2
    go_region_law (refine step_append_run1 rfl _ _ 23 23 rfl _ _ (by simp [Act.eval, Act.put]) (by simp [Act.eval, Act.put]) (Hr.out _) ?_)
    have hr2 := fun ty c2 => Hrun2.out ty c2
    rw [Nat.zero_add] at hr2
    go_wp2
    clear hr2
    go_ret
    exact ⟨rfl, Hfin.out⟩
  · have Hr := Lib.hid (fun ty => Hrun1.out ⟨g, (i + 1) * 5, none⟩ (c - (i + 1)) ty (.inr (by rw [Nat.zero_add])))
    go_enter Tryz.func88, Tryz.ntmps88
    go_wp2
    go_region_law (refine step_append_run1 rfl _ _ 23 23 rfl _ _ (by simp [Act.eval, Act.put]) (by simp [Act.eval, Act.put]) (Hr.out _) ?_)
    have hr2 := fun ty c2 => Hrun2.out ty c2
    rw [Nat.zero_add] at hr2
    go_wp2
    clear hr2
    go_ret
    exact ⟨rfl, Hfin.out⟩
/-- what slices.Insert makes of a row: its post -/
def InsPost (base i n : Nat) (cs vs : List Value) (v : Value) (w : World) (e : Ending) (w' : World) : Prop :=
  ∃ v', e = .returned v' ∧ w'.ownsRow base 58 5 v' (n + 1) (cs.take (i * 5) ++ vs ++ cs.drop (i * 5)) ∧ w.grownBy w' v.ownBlock ∧ (v'.ownBlock = v.ownBlock ∨ v'.ownBlock = some w.heap.size)
set_option maxRecDepth 100000 in
set_option maxHeartbeats 4000000 in
theorem InsertE_end (base c n vb : Nat) (A : Option Addr) (cs vs : List Value) (w : World) (h : w.ownsRow base 58 5 (.slice A n c) n cs) (hn : n ≤ 1000) (hnc : n ≤ c) (hv : w.heap[vb]? = some (.cells vs.toArray 58 (0, 0))) (hvl : vs.length = 5) (h1v : ∀ u ∈ vs, u.oneCell' = true) (hb : base ≤ w.heap.size) :
    Calls Tryz.prog 85 #[.slice A n c, .int .i64 n, .slice (some ⟨vb, 0, none⟩) 1 1] w fun e w' => InsPost base n n cs vs (.slice A n c) w e w' := by
  have hl := h.1
  have hsrc : Rd w 0 w.heap.size 5 (some ⟨vb, 0, none⟩) 1 vs := ⟨by omega, fun _ => ⟨vb, 0, rfl, Nat.zero_le _, (Array.getElem?_eq_some_iff.1 hv).1, fun j u hj => by
    rw [Nat.zero_add, cell_of_row w vb j _ _ (0, 0) hv]; simpa using hj⟩⟩
  have Hh := Lib.hid h
  have Hsrc := Lib.hid hsrc
  have H1v := Lib.hid h1v
  have Hl := Lib.hid hl
  clear h hsrc h1v hv hl hvl
  by_cases hcn : c = n
  · have hcn2 : n = c := hcn.symm
    subst hcn2
    clear hcn
    go_enter Tryz.func85, Tryz.ntmps85
    go_wp2_with (at_builtin; refine wpList_plain rfl fun _ hK => wp_append_many' SlEntry _ (.tmp 23) (.tmp 24) rfl 0 w.heap.size (some ⟨vb, 0, none⟩) 1 1 base _ n cs vs rfl rfl Hh.out Hsrc.out H1v.out (by omega) (by omega) hb ?_; intro v' w' ho hg _ hbk; refine hK _ _ ?_)
    go_ret
    exact ⟨v', rfl, by rw [← Hl.out, List.take_length, List.drop_length, List.append_nil]; exact ho, hg, hbk⟩
  · go_enter Tryz.func85, Tryz.ntmps85
    go_wp2_with (at_builtin; refine wpList_plain rfl fun _ hK => wp_append_many' SlEntry _ (.tmp 23) (.tmp 24) rfl 0 w.heap.size (some ⟨vb, 0, none⟩) 1 1 base _ n cs vs rfl rfl Hh.out Hsrc.out H1v.out (by omega) (by omega) hb ?_; intro v' w' ho hg _ hbk; refine hK _ _ ?_)
    go_ret
    exact ⟨v', rfl, by rw [← Hl.out, List.take_length, List.drop_length, List.append_nil]; exact ho, hg, hbk⟩
theorem shape_row {w : World} {b : Nat} {cs : Array Value} {t : TypeId} (h : w.heap[b]? = some (.cells cs t (0, 0))) : w.shape? b = some (t, cs.size) := by simp [World.shape?, h]
set_option maxRecDepth 100000 in
set_option maxHeartbeats 4000000 in
theorem InsertE_in (base c n i vb : Nat) (A : Option Addr) (cs vs : List Value) (w : World) (h : w.ownsRow base 58 5 (.slice A n c) n cs) (hi : i < n) (hn : n ≤ 1000) (hnc : n + 1 ≤ c) (hv : w.heap[vb]? = some (.cells vs.toArray 58 (0, 0))) (hvl : vs.length = 5) (h1v : ∀ u ∈ vs, u.oneCell' = true) (h1 : ∀ u ∈ cs, u.oneCell' = true) (hvb : ∀ g, (Value.slice A n c).ownBlock = some g → vb ≠ g) :
    Calls Tryz.prog 85 #[.slice A n c, .int .i64 i, .slice (some ⟨vb, 0, none⟩) 1 1] w fun e w' => InsPost base i n cs vs (.slice A n c) w e w' := by
  obtain ⟨hl, hvv⟩ := h
  rcases hvv with ⟨e, e0⟩ | ⟨g, cap, cur, e, hb, hg, hc, hm, hsz, ht⟩
  · omega
  obtain ⟨rfl, rfl⟩ : A = some ⟨g, 0, none⟩ ∧ c = cap := by
    injection e with e1 e2 e3; exact ⟨e1, e3⟩
  clear e
  have hvg : vb ≠ g := hvb g rfl
  unfold maxLen at hm
  obtain ⟨i0, hi0, hz0, hzs, hzb⟩ := infoE
  obtain ⟨ds, hds⟩ : ∃ x, x = cs.drop (i * 5) := ⟨_, rfl⟩
  have hdl : ds.length = (n - i) * 5 := by rw [hds, List.length_drop, hl]; omega
  have hcl : cur.toList.length = c * 5 := by rw [Array.length_toList]; exact hsz
  have hget : ∀ (j : Nat) (v : Value), ds[j]? = some v → cur.toList[0 + i * 5 + j]? = some v := fun j v hj => by
    rw [hds, ← ht, List.getElem?_drop, List.getElem?_take] at hj
    rw [Nat.zero_add]
    split at hj
    · exact hj
    · cases hj
  have hov : ∀ lb cb, (callFunc 114 #[.slice (some ⟨vb, 0, none⟩) 1 1, .slice (some ⟨g, (i + 1) * 5, none⟩) lb cb]).run Tryz.prog w = .ok (.value (.bool false)) w := fun lb cb => by
    rw [run_callFunc_extern Tryz.func114 (by kernel_rfl) (by kernel_rfl) (by kernel_rfl) (e := Extern.SlicesOverlaps.overlaps #[23, 23] #[4]) (by kernel_rfl),
      Lib.run_overlaps_apart w 23 4 58 SlEntry.ht 5 (fun w => by simp [Go.sizeOf, typeInfo, hi0, hzs]) ⟨vb, 0, none⟩ ⟨g, (i + 1) * 5, none⟩ 1 1 lb cb hvg _ _ _ _ (shape_row hv) (shape_row hg) (by omega) (frozen_of_row w vb 0 _ _ hv) (frozen_of_row w vb _ _ _ hv)]
    rfl
  obtain ⟨cur1, hcur1⟩ : ∃ x : List Value, x = cur.toList.take ((i + 1) * 5) ++ ds ++ cur.toList.drop ((i + 1) * 5 + ds.length) := ⟨_, rfl⟩
  have hc1l : cur1.length = c * 5 := by rw [hcur1]; simp only [List.length_append, List.length_take, List.length_drop, hcl]; omega
  obtain ⟨cur2, hcur2⟩ : ∃ x : List Value, x = cur1.take (i * 5) ++ vs ++ cur1.drop (i * 5 + vs.length) := ⟨_, rfl⟩
  have hc2l : cur2.length = c * 5 := by rw [hcur2]; simp only [List.length_append, List.length_take, List.length_drop, hc1l]; omega
  have hc2t : cur2.take ((n + 1) * 5) = cs.take (i * 5) ++ vs ++ cs.drop (i * 5) := by
    rw [hcur2, hvl, List.append_assoc, List.take_append, List.length_take, hc1l, Nat.min_eq_left (by omega), List.take_of_length_le (by simp only [List.length_take]; omega), List.append_assoc]
    congr 1
    · rw [hcur1, List.append_assoc, List.take_append_of_le_length (by simp only [List.length_take, hcl]; omega), List.take_take, Nat.min_eq_left (by omega), ← ht, List.take_take, Nat.min_eq_left (by omega)]
    · rw [List.take_append, hvl, List.take_of_length_le (by rw [hvl]; omega)]
      congr 1
      rw [hcur1, ← hds, List.append_assoc, List.drop_append, List.length_take, hcl, Nat.min_eq_left (by omega), List.drop_of_length_le (by simp only [List.length_take]; omega), List.nil_append, show i * 5 + 5 - (i + 1) * 5 = 0 by omega, List.drop_zero, List.take_append_of_le_length (by omega), List.take_of_length_le (by omega)]
  have hg1 : (w.drew.setRow g cur1.toArray).heap[g]? = some (.cells cur1.toArray 58 (0, 0)) := setRow_heap w.drew g cur cur1.toArray _ _ hg
  have hcp1 : ∀ ty dc sc, (Builtin.copy_ #[23, 23] ty #[.slice (some ⟨g, (i + 1) * 5, none⟩) (n - i) dc, .slice (some ⟨g, i * 5, none⟩) (n + 1 - i) sc]).run Tryz.prog w.drew = .ok (goInt ((n - i : Nat) : Int)) (w.drew.setRow g cur1.toArray) := fun ty dc sc => by
    have hr := run_copyK (P := Tryz.prog) w.drew 23 23 ty 58 i0 g ((i + 1) * 5) (n - i) dc ⟨g, i * 5, none⟩ (n + 1 - i) sc cur 58 ds SlEntry.ht hi0 hg (n - i) (by show min (n + 1 - i) (n - i) = n - i; omega) (by rw [hzs]; exact hdl)
      (row_src (w := w.drew) hg fun j v hj => by have := hget j v hj; rwa [Nat.zero_add] at this) (by rw [hsz, hdl]; omega) (fun v hv => h1 v (by rw [hds] at hv; exact List.mem_of_mem_drop hv))
    rw [hr, hcur1]
  obtain ⟨W1, hW1⟩ : ∃ W1, W1 = w.drew.setRow g cur1.toArray := ⟨_, rfl⟩
  have hv1 : W1.heap[vb]? = some (.cells vs.toArray 58 (0, 0)) := by rw [hW1]; exact (setRow_other _ g vb _ hvg).trans hv
  rw [← hW1] at hg1 hcp1
  have hcp2 : ∀ ty dc, (Builtin.copy_ #[23, 23] ty #[.slice (some ⟨g, i * 5, none⟩) (n + 1 - i) dc, .slice (some ⟨vb, 0, none⟩) 1 1]).run Tryz.prog W1 = .ok (goInt 1) (W1.setRow g cur2.toArray) := fun ty dc => by
    have hr := run_copyK (P := Tryz.prog) W1 23 23 ty 58 i0 g (i * 5) (n + 1 - i) dc ⟨vb, 0, none⟩ 1 1 cur1.toArray 58 vs SlEntry.ht hi0 hg1 1 (by show min 1 (n + 1 - i) = 1; omega) (by rw [hzs, hvl])
      (row_src hv1 fun j v hj => by rw [Nat.zero_add]; simpa using hj) (by simp only [List.size_toArray, hc1l, hvl]; omega) h1v
    rw [hr, hcur2]; rfl
  have Hfin := Lib.hid (show (W1.setRow g cur2.toArray).ownsRow base 58 5 (.slice (some ⟨g, 0, none⟩) (n + 1) c) (n + 1) (cs.take (i * 5) ++ vs ++ cs.drop (i * 5)) ∧ w.grownBy (W1.setRow g cur2.toArray) (some g) from
    ⟨⟨by simp only [List.length_append, List.length_take, List.length_drop, hl, hvl]; omega, .inr ⟨g, c, _, rfl, hb, setRow_heap _ g _ _ _ _ hg1, hnc, by unfold maxLen; omega, by simp only [List.size_toArray, hc2l], hc2t⟩⟩,
     ⟨by rw [hW1]; rfl, by rw [hW1]; rfl, by rw [hW1]; rfl, by rw [hW1]; simp, fun k _ hk => by rw [hW1]; exact (setRow_other _ g k _ (fun e => hk (by simp [e]))).trans (setRow_other _ g k _ (fun e => hk (by simp [e])))⟩⟩)
  obtain ⟨W2, hW2⟩ : ∃ W2, W2 = W1.setRow g cur2.toArray := ⟨_, rfl⟩
  rw [← hW2] at hcp2 Hfin
  have Hcp1 := Lib.hid hcp1
  have Hcp2 := Lib.hid hcp2
  have Hov := Lib.hid hov
  clear hcp1 hcp2 hov hg1 hv1 hc2t hc1l hc2l hcl hget hdl hW1 hW2 hcur1 hcur2 ht hsz hg hz0 hzs hzb hi0 hds h1 h1v hv hl hvl hvb
  have q1 : ¬ (i : Int) = (n : Int) := by omega
  have q2 : ¬ (c : Int) < (n : Int) + 1 := by omega
  have q3 : (n : Int) + 1 ≤ (c : Int) := by omega
  have q4 : (i : Int) + 1 ≤ (n : Int) + 1 := by omega
  have q5 : ¬ c = i + 1 := by omega
  have q6 : ¬ c = i := by omega
  have q7 : (i : Int) ≤ (n : Int) + 1 := by omega
  have q8 : (0 : Int) ≤ (i : Int) + 1 := by omega
  go_enter Tryz.func85, Tryz.ntmps85
  have hov := Hov.out
  go_wp2_with (simp only [hov])
  clear hov
  have g1 : IntKind.i64.wrap ((i : Int) + 1) = (i : Int) + 1 := IntWalk.i64_in _ (by omega)
  have g2 : ((i : Int) + 1).toNat = i + 1 := by omega
  go_region_law (refine step_copy_run1 rfl _ _ 23 23 rfl _ _ (by simp [Act.eval, Act.put]) (by simp [Act.eval, Act.put]) (Hcp1.out _ (c - (i + 1)) (c - i)) ?_)
  clear g1 g2
  go_wp2_with (refine wpList_copy_run1 _ rfl _ _ 23 23 rfl _ _ rfl rfl (Hcp2.out _ _) ?_)
  go_ret
  exact ⟨_, rfl, Hfin.out.1, Hfin.out.2, .inl rfl⟩
theorem zeroE_len (n : Nat) : (Builtin.zeroCells (Value.agg #[.int .i64 0, .int .i64 0, .int .i64 0, .slice none 0 0, .slice none 0 0]).cells n).size = n * 5 := by
  unfold Builtin.zeroCells
  simp [Value.cells]
set_option maxRecDepth 100000 in
set_option maxHeartbeats 4000000 in
theorem InsertE_grow (base c n i vb : Nat) (A : Option Addr) (cs vs : List Value) (w : World) (h : w.ownsRow base 58 5 (.slice A n c) n cs) (hi : i < n) (hn : n ≤ 1000) (hnc : c < n + 1) (hv : w.heap[vb]? = some (.cells vs.toArray 58 (0, 0))) (hvl : vs.length = 5) (h1v : ∀ u ∈ vs, u.oneCell' = true) (h1 : ∀ u ∈ cs, u.oneCell' = true) (hbw : base ≤ w.heap.size) :
    Calls Tryz.prog 85 #[.slice A n c, .int .i64 i, .slice (some ⟨vb, 0, none⟩) 1 1] w fun e w' => InsPost base i n cs vs (.slice A n c) w e w' := by
  obtain ⟨hl, hvv⟩ := h
  rcases hvv with ⟨e, e0⟩ | ⟨g, cap, cur, e, hb, hg, hc, hm, hsz, ht⟩
  · omega
  obtain ⟨rfl, rfl⟩ : A = some ⟨g, 0, none⟩ ∧ c = cap := by
    injection e with e1 e2 e3; exact ⟨e1, e3⟩
  clear e
  have hnc2 : c = n := by omega
  subst hnc2
  unfold maxLen at hm
  obtain ⟨i0, hi0, hz0, hzs, hzb⟩ := infoE
  obtain ⟨ds, hds⟩ : ∃ x, x = cs.drop (i * 5) := ⟨_, rfl⟩
  obtain ⟨os, hos⟩ : ∃ x, x = cs.take (i * 5) := ⟨_, rfl⟩
  have hdl : ds.length = (c - i) * 5 := by rw [hds, List.length_drop, hl]; omega
  have hol : os.length = i * 5 := by rw [hos, List.length_take, hl]; omega
  have hcl : cur.toList.length = c * 5 := by rw [Array.length_toList]; exact hsz
  have htc : cur.toList = cs := by rw [← ht, List.take_of_length_le (by omega)]
  have hvbl : vb < w.heap.size := (Array.getElem?_eq_some_iff.1 hv).1
  have hgl : g < w.heap.size := (Array.getElem?_eq_some_iff.1 hg).1
  obtain ⟨q, hq⟩ : ∃ q, q = c + 1 - i := ⟨_, rfl⟩
  obtain ⟨C, hC⟩ : ∃ C, C = grownCap w (c + 1) c 58 := ⟨_, rfl⟩
  have hC1 : c + 1 ≤ C := by rw [hC]; exact grownCap_ge _ _ _ _
  have hC2 : C ≤ 2 ^ 63 - 1 := by rw [hC]; have := grownCap_le_maxLen w (c + 1) c 58 (by unfold maxLen; omega); unfold maxLen at this; exact this
  obtain ⟨zs, hzs2⟩ : ∃ x, x = (Builtin.zeroCells (Value.agg #[.int .i64 0, .int .i64 0, .int .i64 0, .slice none 0 0, .slice none 0 0]).cells q ++ Builtin.zeroCells (Value.agg #[.int .i64 0, .int .i64 0, .int .i64 0, .slice none 0 0, .slice none 0 0]).cells (C - (c + 1))).toList := ⟨_, rfl⟩
  have hzl : zs.length = (C - i) * 5 := by rw [hzs2]; simp only [Array.toList_append, List.length_append, Array.length_toList, zeroE_len]; omega
  have hap : ∀ ty, (Builtin.append_ #[23, 3] ty #[.slice (some ⟨g, 0, none⟩) i c, .int .i64 q]).run Tryz.prog w = .ok (.slice (some ⟨w.heap.size, 0, none⟩) (c + 1) C) (w.drew.alloc (.cells (os ++ zs).toArray 58)) := fun ty => by
    have hr := run_append_growZ (P := Tryz.prog) w 23 3 ty 58 i0 _ .i64 .i64 SlEntry.ht Tryz.underlying3 hi0 hz0 ⟨g, 0, none⟩ i c os (by rw [hzs]; exact hol) (row_src hg fun j v hj => by
      rw [Nat.zero_add, htc]
      rw [hos, List.getElem?_take] at hj
      split at hj
      · exact hj
      · cases hj) q (by omega) (by omega) (by omega) (by omega) (by rw [hzb]; omega)
    rw [show i + q = c + 1 by omega] at hr
    rw [hr, ← hC]
    congr 3
    rw [hzs2]
    apply Array.ext'
    simp
  obtain ⟨cur0, hcur0⟩ : ∃ x : List Value, x = os ++ zs := ⟨_, rfl⟩
  have hc0l : cur0.length = C * 5 := by rw [hcur0]; simp only [List.length_append, hol, hzl]; omega
  rw [← hcur0] at hap
  obtain ⟨W1, hW1⟩ : ∃ W1, W1 = w.drew.alloc (.cells cur0.toArray 58) := ⟨_, rfl⟩
  have hG1 : W1.heap[w.heap.size]? = some (.cells cur0.toArray 58 (0, 0)) := by rw [hW1]; exact heap_alloc_new w.drew _
  have hv1 : W1.heap[vb]? = some (.cells vs.toArray 58 (0, 0)) := by rw [hW1]; exact (Below.heap_alloc w.drew _ vb hvbl).trans hv
  have hg1 : W1.heap[g]? = some (.cells cur 58 (0, 0)) := by rw [hW1]; exact (Below.heap_alloc w.drew _ g hgl).trans hg
  rw [← hW1] at hap
  obtain ⟨cur1, hcur1⟩ : ∃ x : List Value, x = cur0.take (i * 5) ++ vs ++ cur0.drop (i * 5 + vs.length) := ⟨_, rfl⟩
  have hc1l : cur1.length = C * 5 := by rw [hcur1]; simp only [List.length_append, List.length_take, List.length_drop, hc0l]; omega
  have hc0t : cur0.take (i * 5) = os := by rw [hcur0]; exact List.take_left' hol
  have hc1t : cur1.take ((i + 1) * 5) = os ++ vs := by
    rw [hcur1, hc0t]
    exact List.take_left' (by rw [List.length_append, hol, hvl]; omega)
  have hcp1 : ∀ ty dc, (Builtin.copy_ #[23, 23] ty #[.slice (some ⟨w.heap.size, i * 5, none⟩) (c + 1 - i) dc, .slice (some ⟨vb, 0, none⟩) 1 1]).run Tryz.prog W1 = .ok (goInt 1) (W1.setRow w.heap.size cur1.toArray) := fun ty dc => by
    have hr := run_copyK (P := Tryz.prog) W1 23 23 ty 58 i0 w.heap.size (i * 5) (c + 1 - i) dc ⟨vb, 0, none⟩ 1 1 cur0.toArray 58 vs SlEntry.ht hi0 hG1 1 (by show min 1 (c + 1 - i) = 1; omega) (by rw [hzs, hvl])
      (row_src hv1 fun j v hj => by rw [Nat.zero_add]; simpa using hj) (by simp only [List.size_toArray, hc0l, hvl]; omega) h1v
    rw [hr, hcur1]; rfl
  obtain ⟨W2, hW2⟩ : ∃ W2, W2 = W1.setRow w.heap.size cur1.toArray := ⟨_, rfl⟩
  have hG2 : W2.heap[w.heap.size]? = some (.cells cur1.toArray 58 (0, 0)) := by rw [hW2]; exact setRow_heap _ _ _ _ _ _ hG1
  have hg2 : W2.heap[g]? = some (.cells cur 58 (0, 0)) := by rw [hW2]; exact (setRow_other _ _ g _ (by omega)).trans hg1
  rw [← hW2] at hcp1
  obtain ⟨cur2, hcur2⟩ : ∃ x : List Value, x = cur1.take ((i + 1) * 5) ++ ds ++ cur1.drop ((i + 1) * 5 + ds.length) := ⟨_, rfl⟩
  have hc2l : cur2.length = C * 5 := by rw [hcur2]; simp only [List.length_append, List.length_take, List.length_drop, hc1l]; omega
  have hc2t : cur2.take ((c + 1) * 5) = cs.take (i * 5) ++ vs ++ cs.drop (i * 5) := by
    rw [hcur2, hc1t, ← hos, ← hds, List.take_append_of_le_length (by simp only [List.length_append, hol, hvl, hdl]; omega), List.take_of_length_le (by simp only [List.length_append, hol, hvl, hdl]; omega)]
  have hcp2 : ∀ ty dc sc, (Builtin.copy_ #[23, 23] ty #[.slice (some ⟨w.heap.size, (i + 1) * 5, none⟩) (c - i) dc, .slice (some ⟨g, i * 5, none⟩) (c - i) sc]).run Tryz.prog W2.drew = .ok (goInt ((c - i : Nat) : Int)) (W2.drew.setRow w.heap.size cur2.toArray) := fun ty dc sc => by
    have hr := run_copyK (P := Tryz.prog) W2.drew 23 23 ty 58 i0 w.heap.size ((i + 1) * 5) (c - i) dc ⟨g, i * 5, none⟩ (c - i) sc cur1.toArray 58 ds SlEntry.ht hi0 hG2 (c - i) (by show min (c - i) (c - i) = c - i; omega) (by rw [hzs]; exact hdl)
      (row_src (w := W2.drew) hg2 fun j v hj => by rw [htc]; rw [hds, List.getElem?_drop] at hj; exact hj) (by simp only [List.size_toArray, hc1l, hdl]; omega) (fun v hv => h1 v (by rw [hds] at hv; exact List.mem_of_mem_drop hv))
    rw [hr, hcur2]
  obtain ⟨W3, hW3⟩ : ∃ W3, W3 = W2.drew.setRow w.heap.size cur2.toArray := ⟨_, rfl⟩
  have hG3 : W3.heap[w.heap.size]? = some (.cells cur2.toArray 58 (0, 0)) := by rw [hW3]; exact setRow_heap W2.drew _ _ _ _ _ hG2
  rw [← hW3] at hcp2
  have Hfin := Lib.hid (show W3.ownsRow base 58 5 (.slice (some ⟨w.heap.size, 0, none⟩) (c + 1) C) (c + 1) (cs.take (i * 5) ++ vs ++ cs.drop (i * 5)) ∧ w.grownBy W3 (some g) from
    ⟨⟨by simp only [List.length_append, List.length_take, List.length_drop, hl, hvl]; omega, .inr ⟨w.heap.size, C, _, rfl, hbw, hG3, hC1, by unfold maxLen; omega, by simp only [List.size_toArray, hc2l], hc2t⟩⟩,
     ⟨by rw [hW3, hW2, hW1]; rfl, by rw [hW3, hW2, hW1]; rfl, by rw [hW3, hW2, hW1]; rfl, by rw [hW3, hW2, hW1]; simp, fun k hk _ => by
       rw [hW3]
       refine (setRow_other _ _ k _ (by omega)).trans ?_
       rw [hW2]
       refine (setRow_other _ _ k _ (by omega)).trans ?_
       rw [hW1]
       exact Below.heap_alloc w.drew _ k hk⟩⟩)
  have Hap := Lib.hid hap
  have Hcp1 := Lib.hid hcp1
  have Hcp2 := Lib.hid hcp2
  have hqi : (c : Int) + 1 - (i : Int) = (q : Int) := by omega
  clear hap hcp1 hcp2 hG1 hG2 hG3 hv1 hg1 hg2 hc2t hc1l hc2l hc0l hc1t hc0t hcl hdl hol hW1 hW2 hW3 hcur0 hcur1 hcur2 ht htc hsz hg hz0 hzs hzb hi0 hds hos hzs2 hzl h1 h1v hv hl hvl hC hq hgl hvbl
  have q1 : ¬ (i : Int) = (c : Int) := by omega
  have q4 : (i : Int) + 1 ≤ (c : Int) + 1 := by omega
  have q5 : ¬ C = i + 1 := by omega
  have q6 : ¬ C = i := by omega
  have q7 : (i : Int) ≤ (c : Int) + 1 := by omega
  have q8 : (0 : Int) ≤ (i : Int) + 1 := by omega
  have q9 : ¬ c = i := by omega
  have q10 : i ≤ c := by omega
  go_enter Tryz.func85, Tryz.ntmps85
  go_wp2_with (first | (at_builtin; refine Lib.wpList_append_run _ rfl _ _ 23 3 rfl _ _ rfl rfl _ _ (Hap.out _) ?_) | (refine wpList_copy_run1 _ rfl _ _ 23 23 rfl _ _ rfl rfl (Hcp1.out _ _) ?_))
  have g1 : IntKind.i64.wrap ((i : Int) + 1) = (i : Int) + 1 := IntWalk.i64_in _ (by omega)
  have g2 : ((i : Int) + 1).toNat = i + 1 := by omega
  go_region_law (refine step_copy_run1 rfl _ _ 23 23 rfl _ _ (by simp [Act.eval, Act.put]) (by simp [Act.eval, Act.put]) (Hcp2.out _ (C - (i + 1)) (c - i)) ?_)
  clear g1 g2
  go_wp2
  go_ret
  exact ⟨_, rfl, Hfin.out.1, Hfin.out.2, .inr rfl⟩
end Go.Proofs.YtkgepklapglmdaaGreatDoor

namespace Go.Proofs.YtkgepklapglmdaaGreatDoor
open Go.RowKit
attribute [local go_sem ↓] Go.wp_at_zero Go.wp_at_succ

theorem TS.nilLen {w : World} {lo hi k n c : Nat} {xss : List (List Int)} (h : TS w lo hi k (.slice none n c) xss) : xss = [] := by
  obtain ⟨A, c', e, _, _, hr, _⟩ := h
  injection e with e1 e2 e3
  rcases Nat.eq_zero_or_pos xss.length with h0 | h0
  · exact List.eq_nil_of_length_eq_zero h0
  · obtain ⟨b, o, e4, _⟩ := hr.2 h0
    rw [← e1] at e4
    cases e4
set_option maxRecDepth 100000 in
set_option maxHeartbeats 1000000 in
theorem CloneD_any (lo hi : Nat) (v : Value) (ds : List (List Int)) (w : World) (h : TS w lo hi 5 v ds) (hhi : hi ≤ w.heap.size) (hl : ds.length ≤ 1000000) :
    Calls Tryz.prog 83 #[v] w fun e w' => ∃ v', e = .returned v' ∧ OwnT w' w.heap.size 92 5 v' ds ∧ Below w.heap.size w w' := by
  obtain ⟨A, c, rfl, hc, hm⟩ := h.form
  have heq := fun (w : World) (a : Option Addr) (n c n' c' : Nat) => Lib.run_eql_slice_nil (P := Tryz.prog) w 53 92 a n c n' c' Tryz.underlying53
  cases A with
  | none =>
    have h0 := h.nilLen
    subst h0
    go_enter Tryz.func83, Tryz.ntmps83
    go_wp2
    go_ret
    exact ⟨_, rfl, OwnT.nil _ _ _ _, Below.refl _ _⟩
  | some a =>
    obtain ⟨ab, ao, asp⟩ := a
    have bx : Below w.heap.size w (w.alloc (.cells #[] 92)) := (Below.refl _ _).alloc (Nat.le_refl _) _
    have Hs := Lib.hid (h.below bx hhi)
    have HO := Lib.hid (OwnT.empty w w.heap.size 92 5 (Nat.le_refl _))
    have Hbx := Lib.hid bx
    clear h bx
    go_enter Tryz.func83, Tryz.ntmps83
    go_wp2_with (at_builtin; refine wpList_appendTs SlDefect _ rfl (.tmp 5) (.tmp 6) rfl lo hi _ w.heap.size _ [] ds rfl rfl HO.out Hs.out (by simp; omega) (by simp; omega) (by simp) ?_; intro v' w' ho hg)
    go_ret
    exact ⟨v', rfl, by rw [List.nil_append] at ho; exact ho, Hbx.out.trans hg.below⟩
set_option maxRecDepth 100000 in
set_option maxHeartbeats 1000000 in
theorem CloneP_any (lo hi : Nat) (v : Value) (ds : List (List Int)) (w : World) (h : TS w lo hi 4 v ds) (hhi : hi ≤ w.heap.size) (hl : ds.length ≤ 1000000) :
    Calls Tryz.prog 84 #[v] w fun e w' => ∃ v', e = .returned v' ∧ OwnT w' w.heap.size 38 4 v' ds ∧ Below w.heap.size w w' := by
  obtain ⟨A, c, rfl, hc, hm⟩ := h.form
  have heq := fun (w : World) (a : Option Addr) (n c n' c' : Nat) => Lib.run_eql_slice_nil (P := Tryz.prog) w 56 38 a n c n' c' Tryz.underlying56
  cases A with
  | none =>
    have h0 := h.nilLen
    subst h0
    go_enter Tryz.func84, Tryz.ntmps84
    go_wp2
    go_ret
    exact ⟨_, rfl, OwnT.nil _ _ _ _, Below.refl _ _⟩
  | some a =>
    obtain ⟨ab, ao, asp⟩ := a
    have bx : Below w.heap.size w (w.alloc (.cells #[] 38)) := (Below.refl _ _).alloc (Nat.le_refl _) _
    have Hs := Lib.hid (h.below bx hhi)
    have HO := Lib.hid (OwnT.empty w w.heap.size 38 4 (Nat.le_refl _))
    have Hbx := Lib.hid bx
    clear h bx
    go_enter Tryz.func84, Tryz.ntmps84
    go_wp2_with (at_builtin; refine wpList_appendTs SlPart _ rfl (.tmp 5) (.tmp 6) rfl lo hi _ w.heap.size _ [] ds rfl rfl HO.out Hs.out (by simp; omega) (by simp; omega) (by simp) ?_; intro v' w' ho hg)
    go_ret
    exact ⟨v', rfl, by rw [List.nil_append] at ho; exact ho, Hbx.out.trans hg.below⟩
theorem closE_any (a0 W L lb : Int) (A2 B2 : Option Addr) (n c n2 c2 B : Nat) (w : World) (hB : w.cell? ⟨B, 0, none⟩ = some (.int .i64 lb)) :
    Calls Tryz.prog 59 #[.agg #[.int .i64 a0, .int .i64 W, .int .i64 L, .slice A2 n c, .slice B2 n2 c2], .pointer (some ⟨B, 0, none⟩)] w fun e w' => e = .returned (.bool (a0 == lb)) ∧ Below w.heap.size w w' := by
  have hz := World.block_lt_of_cell? w _ hB
  have hB2 := keepB ((Below.refl w.heap.size w).alloc (Nat.le_refl _) (.cells #[.int .i64 a0, .int .i64 W, .int .i64 L, .slice A2 n c, .slice B2 n2 c2] 58)) hB
  cases he : (a0 == lb)
  all_goals
    go_enter Tryz.func59, Tryz.ntmps59
    go_wp2
    go_ret
    exact ⟨rfl, (Below.refl _ _).alloc (Nat.le_refl _) _⟩
set_option maxHeartbeats 1000000 in
theorem IndexFuncE_any (lo hi : Nat) (v : Value) (es : List Ent) (lb : Int) (B : Nat) (w : World) (h : ES w lo hi v es) (hhi : hi ≤ w.heap.size) (hB : w.cell? ⟨B, 0, none⟩ = some (.int .i64 lb)) :
    Calls Tryz.prog 58 #[v, .func (.func 59) #[] #[.pointer (some ⟨B, 0, none⟩)]] w fun e w' => e = .returned (.int .i64 (entI es lb)) ∧ Below w.heap.size w w' := by
  obtain ⟨A, c, rfl, hc, hm⟩ := h.form
  go_enter Tryz.func58, Tryz.ntmps58
  go_wp2
  go_loopw [8] (fun i wr => ∃ k : Nat, k ≤ es.length ∧ i = .int .i64 k ∧ Below w.heap.size w wr ∧ Hid (entI es lb = plcFrom ((lbs es).drop k) lb k)) (fun i _ => es.length - (intOf i).toNat)
  case atStart => exact ⟨0, by omega, rfl, Below.refl _ _, rfl⟩
  case round =>
    obtain ⟨k, hk, rfl, bw, hno⟩ := hrel
    have hB1 := keepB bw hB
    have hz := bw.size
    by_cases hlt : k < es.length
    · obtain ⟨b9, o, Ad, cd, Ap, cp, rfl, _, _, e0, e1, e2, e3, e4, _⟩ := (h.below bw hhi).cell hlt
      have hk0 : (0 : Int) ≤ (k : Int) := by omega
      have hk1 : (k : Int) < (es.length : Int) := by omega
      have Hno := Lib.hid (hno.out.trans (by rw [lbs_drop hlt, plcFrom]))
      clear hno
      go_wp2_with fail
      refine (closE_any _ _ _ lb _ _ _ _ _ _ B wr hB1).mono ?_
      by_cases he : (ge es k).lb = lb
      · have hb9 : ((ge es k).lb == lb) = true := beq_t he
        have HR := Lib.hid (show entI es lb = (k : Int) by rw [Hno.out, if_pos he])
        clear he
        rw [hb9]
        rintro e w2 ⟨rfl, b2⟩
        go_wp2
        go_ret
        exact ⟨ret_int (by rw [HR.out]), bw.trans (b2.mono hz)⟩
      · have hb9 : ((ge es k).lb == lb) = false := beq_f he
        have HR : Hid (entI es lb = plcFrom ((lbs es).drop (k + 1)) lb (k + 1)) := Hno.out.trans (if_neg he)
        clear he
        rw [hb9]
        rintro e w2 ⟨rfl, b2⟩
        go_wp2
        go_roundw
        case rel => exact ⟨k + 1, by omega, by go_num, bw.trans (b2.mono hz), HR⟩
        case measure => simp [intOf]; omega
    · have Hno := Lib.hid (hno.out.trans (by rw [lbs_end (by omega), plcFrom]))
      clear hno
      go_wp2
      go_ret
      exact ⟨ret_int Hno.out.symm, bw⟩
set_option maxHeartbeats 1000000 in
theorem iEntryOf_any (lo hi : Nat) (v : Value) (es : List Ent) (a b z lb : Int) (w : World) (h : ES w lo hi v es) (hhi : hi ≤ w.heap.size) :
    Calls Tryz.prog 30 #[.agg #[v, .int .i64 a, .int .i64 b, .int .i64 z], .int .i64 lb] w fun e w' => e = .returned (.int .i64 (entI es lb)) ∧ Below w.heap.size w w' := by
  obtain ⟨A, c, rfl, hc, hm⟩ := h.form
  have hes : ∀ w1, Below w.heap.size w w1 → ES w1 lo hi (.slice A es.length c) es := fun w1 hb => h.below hb hhi
  have hmf : ∀ (fn : Fn) (first cap : Array Value) (w : World), (Instr.makeFunc fn first cap).run Tryz.prog w = .ok (.func fn first cap) w := fun _ _ _ _ => rfl
  have Hs := Lib.hid (show ∃ w1, w1 = ((w.alloc (.cells #[.slice A es.length c, .int .i64 a, .int .i64 b, .int .i64 z] 25)).alloc (.cells #[.int .i64 lb] 3)) ∧ Below w.heap.size w w1 ∧ w1.cell? ⟨w.heap.size, 0, none⟩ = some (.slice A es.length c) ∧ w1.cell? ⟨w.heap.size, 1, none⟩ = some (.int .i64 a) ∧ w1.cell? ⟨w.heap.size, 2, none⟩ = some (.int .i64 b) ∧ w1.cell? ⟨w.heap.size, 3, none⟩ = some (.int .i64 z) ∧ w1.cell? ⟨w.heap.size + 1, 0, none⟩ = some (.int .i64 lb) ∧ w.heap.size + 1 < w1.heap.size from by
    have hb : Below w.heap.size w ((w.alloc (.cells #[.slice A es.length c, .int .i64 a, .int .i64 b, .int .i64 z] 25)).alloc (.cells #[.int .i64 lb] 3)) := ((Below.refl _ _).alloc (Nat.le_refl _) _).alloc (by simp) _
    exact ⟨_, rfl, hb, by go_simp, by go_simp, by go_simp, by go_simp, by go_simp, by simp⟩)
  go_enter Tryz.func30, Tryz.ntmps30
  go_wp2_with fail
  obtain ⟨w1, hw1, hb0, c00, c01, c02, c03, c10, hz⟩ := Hs.out
  rw [← hw1]
  clear hw1 Hs
  refine (IndexFuncE_any lo hi _ es lb _ w1 (hes w1 hb0) (by omega) c10).mono ?_
  rintro e w2 ⟨rfl, b2⟩
  go_wp2
  go_ret
  exact ⟨rfl, hb0.trans (b2.mono (by omega))⟩
end Go.Proofs.YtkgepklapglmdaaGreatDoor
