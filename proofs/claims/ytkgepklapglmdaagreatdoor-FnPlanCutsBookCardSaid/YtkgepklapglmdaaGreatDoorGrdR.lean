/-
  Lemmas and contracts of single functions of this program, used by the proofs of its laws: what each call returns and what becomes of memory. Conditions: the hypotheses of each theorem.
-/
import Derived.Test.YtkgepklapglmdaaGreatDoorGPQ
import Derived.Test.YtkgepklapglmdaaGreatDoorSortX
import Derived.Test.YtkgepklapglmdaaGreatDoorRegLast
import Derived.Sort.OwnSortedInts
namespace Go.Proofs.YtkgepklapglmdaaGreatDoor
open Go.RowKit Go.Sort
attribute [local go_sem ↓] Go.wp_at_zero Go.wp_at_succ

/-! the kinds of widths, sorted by the library -/
def cfG (ws : List Int) (x y : Fin ws.length) : Int := gi ws y.val - gi ws x.val
theorem ltG (ws : List Int) (x y : Fin ws.length) : ltOf (cfG ws) x y = decide (gi ws y.val < gi ws x.val) := by
  unfold ltOf cfG
  congr 1
  rw [eq_iff_iff]; omega
theorem swoG (ws : List Int) : SWO (ltOf (cfG ws)) where
  irrefl x := by rw [ltG]; simp
  trans x y z h1 h2 := by rw [ltG] at *; simp at *; omega
  ntrans x y z h1 h2 := by rw [ltG] at *; simp at *; omega
def encG {n : Nat} (x : Fin n) : Value := .int .i64 (x.val : Int)
theorem sortWorld_block {n : Nat} [Inhabited (Fin n)] {w : World} {g m : Nat} {dk : Array (Fin n)} {os : Array Obj} {k : Nat} (hk : k < w.heap.size) (hne : k ≠ g) : (sortWorld encG w g 0 m dk os).heap[k]? = w.heap[k]? := by
  unfold sortWorld
  rw [heap_grow_old _ _ (by simpa [putRow, mapBlock, Sort.ahead] using hk)]
  simp [putRow, mapBlock, Sort.ahead, Array.getElem?_modify, Ne.symm hne]
theorem sortWorld_eq {n : Nat} [Inhabited (Fin n)] {w : World} {g m : Nat} {dk : Array (Fin n)} {os : Array Obj} : sortWorld encG w g 0 m dk os = grow (putRow (Value.int .i64) (Sort.ahead w m) g 0 (dk.map fun x => (x.val : Int))) os := by
  unfold sortWorld
  congr 1
  unfold putRow mapBlock
  congr 2
  funext o
  cases o with
  | cells c e fr =>
    unfold onCells putCells
    have hc : ∀ {c1 c2 : Array Value}, c1 = c2 → Obj.cells c1 e fr = Obj.cells c2 e fr := fun h => by rw [h]
    apply hc
    apply Array.ext
    · simp
    · intro i h1 h2
      simp only [Array.getElem_mapIdx, Array.size_map, Nat.zero_le, true_and, Nat.zero_add, Nat.sub_zero]
      split
      · rename_i h
        unfold encG
        rw [getElem!_pos dk i h, getElem!_pos (dk.map _) i (by simpa using h)]
        simp
      · rfl
  | _ => rfl
set_option maxRecDepth 100000 in
set_option maxHeartbeats 1000000 in
theorem kindCmp_any (lo hi bp : Nat) (u : Value) (ws : List Int) (x y : Nat) (w : World) (h : Ints w lo hi u ws) (hx : x < ws.length) (hy : y < ws.length) (hr : ∀ i, i < ws.length → 1 ≤ gi ws i ∧ gi ws i ≤ 60) (cW : w.cell? ⟨bp, 0, none⟩ = some u) :
    Calls Tryz.prog 62 #[.int .i64 (x : Int), .int .i64 (y : Int), .pointer (some ⟨bp, 0, none⟩)] w fun e w' => e = .returned (.int .i64 (gi ws y - gi ws x)) ∧ ∃ q, w' = w.drewN q := by
  obtain ⟨A, c, rfl, hc, hm⟩ := h.form
  obtain ⟨b, o, rfl, _, _, cx, _⟩ := h.cell hx
  have cy := h.cell' hy
  have rx := hr x hx
  have ry := hr y hy
  obtain ⟨p, hp⟩ : ∃ p, p = gi ws x := ⟨_, rfl⟩
  obtain ⟨q, hq⟩ : ∃ p, p = gi ws y := ⟨_, rfl⟩
  rw [← hp] at cx rx ⊢
  rw [← hq] at cy ry ⊢
  have x0 : (0 : Int) ≤ (x : Int) := by omega
  have x1 : (x : Int) < (ws.length : Int) := by omega
  have y0 : (0 : Int) ≤ (y : Int) := by omega
  have y1 : (y : Int) < (ws.length : Int) := by omega
  have g1 : IntKind.i64.wrap (q - p) = q - p := IntWalk.i64_in _ (by omega)
  clear hp hq hr
  go_enter Tryz.func62, Tryz.ntmps62
  go_wp2
  refine wp_region_held_drew (S := fun w' => w'.cell? ⟨bp, 0, none⟩ = some (.slice (some ⟨b, o, none⟩) ws.length c) ∧ w'.cell? ⟨b, o + x, none⟩ = some (.int .i64 p) ∧ w'.cell? ⟨b, o + y, none⟩ = some (.int .i64 q)) (by kernel_rfl) ?_ (fun hHeld => ?_)
  · (first | (try dsimp only); go_keep | (go_split_ands; refine ⟨?_, ?_, ?_⟩ <;> first | assumption))
  refine tkW 0 6 rfl rfl (by kernel_rfl) hHeld (by intro w hSw; (try dsimp only at hSw); go_simp; try with_reducible rfl) ?_ (fun _ _ _ h => h)
  simp only [Act.put, lyA, lyB, lyC]
  refine tkW 1 7 rfl rfl (by kernel_rfl) hHeld (by intro w hSw; (try dsimp only at hSw); go_simp; try with_reducible rfl) ?_ (fun _ _ _ h => h)
  simp only [Act.put, lyA, lyB, lyC]
  refine tkW 2 8 rfl rfl (by kernel_rfl) hHeld (by intro w hSw; (try dsimp only at hSw); go_simp; try with_reducible rfl) ?_ (fun _ _ _ h => h)
  simp only [Act.put, lyA, lyB, lyC]
  refine tkW 3 9 rfl rfl (by kernel_rfl) hHeld (by intro w hSw; (try dsimp only at hSw); go_simp; try with_reducible rfl) ?_ (fun _ _ _ h => h)
  simp only [Act.put, lyA, lyB, lyC]
  refine tkW 4 10 rfl rfl (by kernel_rfl) hHeld (by intro w hSw; (try dsimp only at hSw); go_simp; try with_reducible rfl) ?_ (fun _ _ _ h => h)
  simp only [Act.put, lyA, lyB, lyC]
  refine tkW 5 11 rfl rfl (by kernel_rfl) hHeld (by intro w hSw; (try dsimp only at hSw); go_simp; try with_reducible rfl) ?_ (fun _ _ _ h => h)
  simp only [Act.put, lyA, lyB, lyC]
  refine tkW 6 12 rfl rfl (by kernel_rfl) hHeld (by intro w hSw; (try dsimp only at hSw); go_simp; try with_reducible rfl) ?_ (fun _ _ _ h => h)
  simp only [Act.put, lyA, lyB, lyC]
  refine tkW 7 13 rfl rfl (by kernel_rfl) hHeld (by intro w hSw; (try dsimp only at hSw); go_simp; try with_reducible rfl) ?_ (fun _ _ _ h => h)
  simp only [Act.put, lyA, lyB, lyC]
  refine tkW 8 14 rfl rfl (by kernel_rfl) hHeld (by intro w hSw; (try dsimp only at hSw); go_simp; try with_reducible rfl) ?_ (fun _ _ _ h => h)
  simp only [Act.put, lyA, lyB, lyC]
  refine tkW 9 5 rfl rfl (by kernel_rfl) hHeld (by intro w hSw; (try dsimp only at hSw); go_simp; try with_reducible rfl) ?_ (fun _ _ _ h => h)
  simp only [Act.put, lyA, lyB, lyC]
  refine wpAnyH_done (by kernel_rfl) ?_ _
  go_wp2
  go_ret
  exact ⟨rfl, 1, World.drew_is_drewN _⟩
/-- the indices as ints -/
def idxI (K : List Nat) : List Int := K.map fun (i : Nat) => (i : Int)
set_option maxHeartbeats 1000000 in
theorem sortKinds_any (base lo hi bp : Nat) (v u : Value) (W : Int) (ws : List Int) (w : World) (hv : vWid W ws = true) (ho : OwnI w base 3 v (idxI (List.range ws.length))) (hb : base ≤ w.heap.size) (h : Ints w lo hi u ws) (hhi : hi ≤ base) (cW : w.cell? ⟨bp, 0, none⟩ = some u) (hbp : bp < base) :
    Calls Tryz.prog 61 #[v, .func (.func 62) #[] #[.pointer (some ⟨bp, 0, none⟩)]] w fun e w' => e = .returned (.tuple #[]) ∧ OwnI w' base 3 v (idxI (kOrd ws)) ∧ Below base w w' := by
  have hvw := vWid_iff.1 hv
  have hn1 : 0 < ws.length := by omega
  have : Inhabited (Fin ws.length) := ⟨⟨0, hn1⟩⟩
  have hlen : (idxI (List.range ws.length)).length = ws.length := by simp [idxI]
  rcases ho.1.2 with ⟨rfl, hn⟩ | ⟨g, cap, cur, rfl, hbg, hg, hc, hm, hs, ht⟩
  · rw [hlen] at hn; omega
  rw [hlen] at hc ht
  rw [Nat.mul_one] at ht
  have hgs := (Array.getElem?_eq_some_iff.1 hg).1
  have hr : ∀ i, i < ws.length → 1 ≤ gi ws i ∧ gi ws i ≤ 60 := fun i hi => by have := vWid_w hv hi; omega
  have hcmp : CmpReads Tryz.prog 62 #[.pointer (some ⟨bp, 0, none⟩)] (encG (n := ws.length)) (cfG ws) g 0 (Array.ofFn (fun i : Fin ws.length => i)).size w := fun m os dk _ x y => by
    have hk : ∀ k, k < base → (sortWorld encG w g 0 m dk os).heap[k]? = w.heap[k]? := fun k hk => sortWorld_block (by omega) (by omega)
    exact kindCmp_any lo hi bp u ws x.val y.val _ (h.kept fun k _ h2 => hk k (by omega)) x.isLt y.isLt hr ((World.cell?_of_block (hk bp hbp)).trans cW)
  have hH : Holds (encG (n := ws.length)) w g 0 (Array.ofFn (fun i : Fin ws.length => i)) := fun j hj => by
    have hj' : j < ws.length := by simpa using hj
    refine ⟨?_, by simp [World.frozen?, hg]⟩
    have h1 : (cur.toList.take ws.length)[j]? = ((idxI (List.range ws.length)).map (Value.int .i64))[j]? := by rw [ht]
    rw [List.getElem?_take_of_lt hj'] at h1
    rw [cell_of_row w g (0 + j) cur 3 (0, 0) hg, Nat.zero_add, ← Array.getElem?_toList, h1]
    rw [getElem!_pos (Array.ofFn (fun i : Fin ws.length => i)) j hj]
    simp [idxI, encG, hj']
  have hcon := Any.slices_SortFunc Tryz.sortX (encG (n := ws.length)) (fun _ => rfl) (cfG ws) (swoG ws) 62 #[.pointer (some ⟨bp, 0, none⟩)] g 0 cap (Array.ofFn (fun i : Fin ws.length => i)) w (enters_of Tryz.func62 (by kernel_rfl) rfl) hcmp.lays hH hgs (by simp; omega)
  rw [show (Array.ofFn (fun i : Fin ws.length => i)).size = ws.length by simp] at hcon
  rw [hlen]
  refine Calls.mono hcon fun e w' ⟨he, d', n, os, hp, hso, hw⟩ => ?_
  subst hw
  obtain ⟨hsz, _, hperm⟩ := hp
  rw [show (Array.ofFn (fun i : Fin ws.length => i)).size = ws.length by simp] at hsz
  have e1 : d'.extract 0 ws.length = d' := by
    have : ∀ k, k = d'.size → d'.extract 0 k = d' := fun k hk => by rw [hk]; exact Array.extract_size
    exact this _ hsz.symm
  have e2 : (Array.ofFn (fun i : Fin ws.length => i)).extract 0 ws.length = Array.ofFn (fun i : Fin ws.length => i) := by
    have : ws.length = (Array.ofFn (fun i : Fin ws.length => i)).size := by simp
    conv => lhs; rw [show (Array.ofFn (fun i : Fin ws.length => i)).extract 0 ws.length = (Array.ofFn (fun i : Fin ws.length => i)).extract 0 (Array.ofFn (fun i : Fin ws.length => i)).size by rw [← this]]
    exact Array.extract_size
  rw [e1, e2] at hperm
  obtain ⟨K, hK⟩ : ∃ K, K = d'.toList.map Fin.val := ⟨_, rfl⟩
  have hKp : K.Perm (List.range ws.length) := by
    have h1 := hperm.map Fin.val
    rw [← hK] at h1
    refine h1.trans (List.Perm.of_eq ?_)
    apply List.ext_getElem
    · simp
    · intro i h1 h2; simp
  have hKD : DescG ws K := by
    have hm : ∀ i, i ∈ K ↔ i < ws.length := fun i => hKp.mem_iff.trans List.mem_range
    have hn : K.Nodup := hKp.nodup_iff.2 List.nodup_range
    refine ⟨⟨hn, hm⟩, ?_⟩
    rw [List.pairwise_iff_getElem]
    intro i j hi hj hij
    have hi' : i < d'.size := by rw [hK] at hi; simpa using hi
    have hj' : j < d'.size := by rw [hK] at hj; simpa using hj
    have h1 := hso i j (Nat.zero_le _) hij (by omega)
    rw [getElem!_pos d' j hj', getElem!_pos d' i hi', ltG] at h1
    have h2 : ¬ gi ws d'[i].val < gi ws d'[j].val := of_decide_eq_false h1
    have e3 : K[i] = d'[i].val := by simp [hK]
    have e4 : K[j] = d'[j].val := by simp [hK]
    rw [e3, e4]
    have hne : d'[i].val ≠ d'[j].val := by
      rw [← e3, ← e4]
      exact List.pairwise_iff_getElem.1 (List.nodup_iff_pairwise_ne.1 hn) i j hi hj hij
    have := wid_ne hv d'[i].isLt d'[j].isLt hne
    omega
  have hKe := desc_unique hKD (kOrd_desc hv)
  have hdm : (d'.map fun x => (x.val : Int)) = (idxI (kOrd ws)).toArray := by
    rw [← hKe, hK]
    apply Array.ext'
    simp [idxI]
  have hkl : (idxI (kOrd ws)).length = ws.length := by
    rw [← hKe]
    unfold idxI
    rw [List.length_map, hKp.length_eq, List.length_range]
  rw [sortWorld_eq, hdm]
  have h1 := ownsRow_sortedI (n := n) (os := os) (ss := idxI (List.range ws.length)) (ts := idxI (kOrd ws)) (by rw [hkl, hlen]) hbg hg (by rw [hlen]; exact hc) hm hs
  rw [hlen] at h1
  refine ⟨he, ⟨by rw [hkl]; exact h1, fun x hx => ?_⟩, ?_⟩
  · obtain ⟨i, hi, rfl⟩ := List.mem_map.1 hx
    have := ((kOrd_desc hv).1.2 i).1 hi
    exact ⟨by omega, by omega⟩
  · exact ⟨(grownBy_sortedI _).os, (grownBy_sortedI _).tape, (grownBy_sortedI _).output, (grownBy_sortedI _).size, fun k hk => (grownBy_sortedI _).block k (by omega) (fun e => by injection e with e; omega)⟩
end Go.Proofs.YtkgepklapglmdaaGreatDoor
