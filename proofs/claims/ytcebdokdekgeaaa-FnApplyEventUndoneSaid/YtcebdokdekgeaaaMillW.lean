/-
  Lemmas and contracts of single functions of this program, used by the proofs of its laws: what each call returns and what becomes of memory. Conditions: the hypotheses of each theorem.
-/
import Derived.Test.YtcebdokdekgeaaaMillV
namespace Go.Proofs.Ytcebdokdekgeaaa
open Go.RowKit
attribute [local go_sem ↓] Go.wp_at_zero Go.wp_at_succ

set_option maxRecDepth 100000 in
set_option maxHeartbeats 4000000 in
theorem sRunBook_any (lo hi : Nat) (v : Value) (evs : List Evt) (w : World) (h : TS w lo hi 7 v (evT evs)) (hhi : hi ≤ w.heap.size) :
    Calls Try.prog 25 #[v] w fun e w' => ApPost w (rbV evs) e w' := by
  obtain ⟨A, c, rfl, hc, hm⟩ := h.form
  rw [evT_len] at hc ⊢
  have hts : ∀ w1, Below w.heap.size w w1 → TS w1 lo hi 7 (.slice A evs.length c) (evT evs) := fun w1 hb => by have := h.below hb hhi; rw [evT_len] at this; exact this
  clear h
  have Hs := Lib.hid (show ∃ w1, w1 = (w.alloc (.cells #[.slice none 0 0, .int .i64 0, .int .i64 0, .int .i64 0] 25)) ∧ Below w.heap.size w w1 ∧ w1.cell? ⟨w.heap.size, 0, none⟩ = some (.slice none 0 0) ∧ w1.cell? ⟨w.heap.size, 1, none⟩ = some (.int .i64 0) ∧ w1.cell? ⟨w.heap.size, 2, none⟩ = some (.int .i64 0) ∧ w1.cell? ⟨w.heap.size, 3, none⟩ = some (.int .i64 0) ∧ w1.frozen? ⟨w.heap.size, 0, none⟩ = false ∧ w1.frozen? ⟨w.heap.size, 1, none⟩ = false ∧ w1.frozen? ⟨w.heap.size, 2, none⟩ = false ∧ w1.frozen? ⟨w.heap.size, 3, none⟩ = false ∧ w.heap.size < w1.heap.size from by
    have hb : Below w.heap.size w (w.alloc (.cells #[.slice none 0 0, .int .i64 0, .int .i64 0, .int .i64 0] 25)) := (Below.refl _ _).alloc (Nat.le_refl _) _
    exact ⟨_, rfl, hb, by go_simp, by go_simp, by go_simp, by go_simp, by go_simp, by go_simp, by go_simp, by go_simp, by simp⟩)
  by_cases hl : evs.length ≤ 60
  · have hnl : ¬ (60 : Int) < (evs.length : Int) := by omega
    have hnl2 : ¬ (evs.length : Int) > 60 := by omega
    go_enter Try.func25, Try.ntmps25
    go_wp2_with fail
    obtain ⟨w1, hw1, hb0, c00, c01, c02, c03, f00, f01, f02, f03, hz⟩ := Hs.out
    rw [← hw1]
    clear hw1 Hs
    refine (runBook_any lo hi _ evs w1 (hts w1 hb0) (by omega) (by omega)).mono ?_
    intro e w3 hpost
    obtain ⟨v3, rfl, he3, b3⟩ := hpost
    replace c00 := keepB b3 c00; replace c01 := keepB b3 c01; replace c02 := keepB b3 c02; replace c03 := keepB b3 c03
    replace f00 := keepF b3 (by first | (simp; done) | (simp; omega)) f00; replace f01 := keepF b3 (by first | (simp; done) | (simp; omega)) f01; replace f02 := keepF b3 (by first | (simp; done) | (simp; omega)) f02; replace f03 := keepF b3 (by first | (simp; done) | (simp; omega)) f03
    have Hb := Lib.hid (hb0.trans (b3.mono (by omega)))
    have HR2 := Lib.hid (show rbV evs = runB Mil.nil evs by unfold rbV; rw [if_pos hl])
    obtain ⟨r, hr⟩ : ∃ r, r = runB Mil.nil evs := ⟨_, rfl⟩
    rw [← hr] at he3 HR2 ⊢
    obtain ⟨A3, c3, hv3, _⟩ := he3.form
    obtain ⟨n3, hn3⟩ : ∃ n, n = (r.getD Mil.nil).es.length := ⟨_, rfl⟩
    rw [← hn3] at hv3
    subst hv3
    have He := Lib.hid he3
    have hs3 := b3.size
    clear b3 hb0 hts hr hn3 he3
    obtain ⟨w9, hw9⟩ : ∃ w9, w9 = (((w3.setCell ⟨w.heap.size, 0, none⟩ (.slice A3 n3 c3)).setCell ⟨w.heap.size, 1, none⟩ (.int .i64 (r.getD Mil.nil).a)).setCell ⟨w.heap.size, 2, none⟩ (.int .i64 (r.getD Mil.nil).b)).setCell ⟨w.heap.size, 3, none⟩ (.int .i64 (r.getD Mil.nil).z) := ⟨_, rfl⟩
    have HE9 := Lib.hid (show ES w9 w1.heap.size w3.heap.size (.slice A3 n3 c3) (r.getD Mil.nil).es by
      rw [hw9]
      exact He.out.kept fun q hq _ => by simp only [World.setCell, Array.getElem?_modify, if_neg (show ¬ w.heap.size = q by omega)])
    have HB9 := Lib.hid (show Below w.heap.size w w9 by rw [hw9]; exact (((Hb.out.setCell (p := ⟨_, _, _⟩) (by simp) _).setCell (p := ⟨_, _, _⟩) (by simp) _).setCell (p := ⟨_, _, _⟩) (by simp) _).setCell (p := ⟨_, _, _⟩) (by simp) _)
    have HZ9 := Lib.hid (show w9.heap.size = w3.heap.size by rw [hw9]; simp [World.setCell])
    have Hw9 := Lib.hid hw9
    clear hw9
    go_wp2
    refine bodyPost_ret (v := .tuple #[.agg #[.slice A3 n3 c3, .int .i64 (r.getD Mil.nil).a, .int .i64 (r.getD Mil.nil).b, .int .i64 (r.getD Mil.nil).z], .bool r.isSome]) (by simp [results, Try.results25, go_sem, *]) rfl ?_
    rw [← Hw9.out, HR2.out]
    exact ⟨_, rfl, HE9.out.wide (by omega) (by have := HZ9.out; omega), HB9.out⟩
  · have hnl : (60 : Int) < (evs.length : Int) := by omega
    have hnl2 : (evs.length : Int) > 60 := by omega
    have HR := Lib.hid (show rbV evs = none by unfold rbV; rw [if_neg hl])
    have Hb := Lib.hid (show Below w.heap.size w (w.alloc (.cells #[.slice none 0 0, .int .i64 0, .int .i64 0, .int .i64 0] 25)) from (Below.refl _ _).alloc (Nat.le_refl _) _)
    clear hts Hs
    go_enter Try.func25, Try.ntmps25
    go_wp2
    refine bodyPost_ret (v := .tuple #[.agg #[.slice none 0 0, .int .i64 0, .int .i64 0, .int .i64 0], .bool false]) (by simp [results, Try.results25, go_sem, *]) rfl ?_
    rw [HR.out]
    exact ApPost.none Hb.out
theorem Mil.i64 {m : Mil} (h : m.ok = true) : I64 m.a ∧ I64 m.b ∧ I64 m.z := by
  have hv := vMill_iff.1 h
  exact ⟨⟨by omega, by omega⟩, ⟨by omega, by omega⟩, ⟨by omega, by omega⟩⟩
theorem apV_ok {m : Mil} (e : Evt) (h : m.ok = true) : apV m e = apE m e := by unfold apV; rw [if_pos h]
set_option maxRecDepth 100000 in
set_option maxHeartbeats 8000000 in
theorem RunBook_any (lo hi : Nat) (v : Value) (evs : List Evt) (w : World) (h : TS w lo hi 7 v (evT evs)) (hhi : hi ≤ w.heap.size) :
    Calls Try.prog 24 #[v] w fun e w' => OpPost w (rbV evs) e w' := by
  obtain ⟨A, c, rfl, hc, hm⟩ := h.form
  rw [evT_len] at hc ⊢
  have hts : ∀ w1, Below w.heap.size w w1 → TS w1 lo hi 7 (.slice A evs.length c) (evT evs) := fun w1 hb => by have := h.below hb hhi; rw [evT_len] at this; exact this
  clear h
  by_cases hl : evs.length ≤ 60
  rotate_left
  · have hnl : (60 : Int) < (evs.length : Int) := by omega
    have hnl2 : (evs.length : Int) > 60 := by omega
    have HR := Lib.hid (show rbV evs = none by unfold rbV; rw [if_neg hl])
    have Hb := Lib.hid (show Below w.heap.size w (w.alloc (.cells #[.slice none 0 0, .int .i64 0, .int .i64 0, .int .i64 0] 25)) from (Below.refl _ _).alloc (Nat.le_refl _) _)
    clear hts
    go_enter Try.func24, Try.ntmps24
    go_wp2
    refine bodyPost_ret (v := .tuple #[.agg #[.slice none 0 0, .int .i64 0, .int .i64 0, .int .i64 0], .bool false]) (by simp [results, Try.results24, go_sem, *]) rfl ?_
    rw [HR.out]
    refine OpPost.none ?_
    first | exact Hb.out | exact ((Below.refl _ _).alloc (Nat.le_refl _) _) | exact (((((Hb.out.setCell (p := ⟨_, _, _⟩) (by simp) _).setCell (p := ⟨_, _, _⟩) (by simp) _).setCell (p := ⟨_, _, _⟩) (by simp) _).setCell (p := ⟨_, _, _⟩) (by simp) _))
  have hnl : ¬ (60 : Int) < (evs.length : Int) := by omega
  have hnl2 : ¬ (evs.length : Int) > 60 := by omega
  have HR2 := Lib.hid (show rbV evs = runB Mil.nil evs by unfold rbV; rw [if_pos hl])
  have Hs := Lib.hid (show ∃ w1, w1 = (w.alloc (.cells #[.slice none 0 0, .int .i64 0, .int .i64 0, .int .i64 0] 25)).alloc (.cells #[.slice none 0 0, .int .i64 0, .int .i64 0, .int .i64 0] 25) ∧ Below w.heap.size w w1 ∧ MB w1 w.heap.size (.slice none 0 0) 0 0 0 ∧ MB w1 (w.heap.size + 1) (.slice none 0 0) 0 0 0 ∧ w.heap.size + 1 + 1 ≤ w1.heap.size from by
    refine ⟨_, rfl, ((Below.refl _ _).alloc (Nat.le_refl _) _).alloc (by simp) _, ?_, ?_, by simp⟩
    · refine Eq.trans ?_ (heap_alloc_new w (.cells #[.slice none 0 0, .int .i64 0, .int .i64 0, .int .i64 0] 25))
      exact ((Below.refl _ _).alloc (Nat.le_refl _) _).block _ (by simp)
    · have := heap_alloc_new (w.alloc (.cells #[.slice none 0 0, .int .i64 0, .int .i64 0, .int .i64 0] 25)) (.cells #[.slice none 0 0, .int .i64 0, .int .i64 0, .int .i64 0] 25)
      unfold MB
      simpa using this)
  go_enter Try.func24, Try.ntmps24
  go_wp2
  obtain ⟨w1, hw1, hb0, hma, hmb, hz1⟩ := Hs.out
  rw [← hw1]
  clear hw1 Hs
  go_loopw [15] (fun i wr => ∃ (k : Nat) (m : Mil) (A1 : Option Addr) (c1 : Nat), k ≤ evs.length ∧ i = .int .i64 k ∧ Below w.heap.size w wr ∧ MB wr (w.heap.size + 1) (.slice A1 m.es.length c1) m.a m.b m.z ∧ MB wr w.heap.size (.slice none 0 0) 0 0 0 ∧ OwnE wr (w.heap.size + 1 + 1) wr.heap.size 35 82 38 (.slice A1 m.es.length c1) m.es ∧ w.heap.size + 1 + 1 ≤ wr.heap.size ∧ Hid (runB Mil.nil (evs.take k) = some m ∧ m.ok = true)) (fun i _ => evs.length - (intOf i).toNat)
  case atStart => exact ⟨0, Mil.nil, none, 0, by omega, rfl, hb0, hmb, hma, OwnE.nil _ _ _ _ _ _, hz1, ⟨rfl, nil_ok⟩⟩
  case round =>
    clear hma hmb hb0
    obtain ⟨k, ⟨es, a, b, z⟩, A1, c1, hk, rfl, bw, hmb, hma, hes, hzr, HK⟩ := hrel
    dsimp only at hmb hes
    have hmb1 := hmb
    have hma1 := hma
    obtain ⟨⟨c00, c01, c02, c03⟩, ⟨f00, f01, f02, f03⟩⟩ := hma1.cells
    obtain ⟨⟨c10, c11, c12, c13⟩, ⟨f10, f11, f12, f13⟩⟩ := hmb1.cells
    have Hmb := Lib.hid hmb
    have Hma := Lib.hid hma
    have Hes := Lib.hid hes
    clear hmb hma hes hmb1 hma1
    by_cases hlt : k < evs.length
    · obtain ⟨b9, o, rfl, _, hb9h, e0, e1, e2, e3, e4, e5, e6⟩ := (hts wr bw).c7 (by rw [evT_len]; exact hlt)
      have h64 := ve_v64 (hts wr bw) hlt
      rw [ve_row hlt] at e0 e1 e2 e3 e4 e5 e6
      have hk0 : (0 : Int) ≤ (k : Int) := by omega
      have hk1 : (k : Int) < (evs.length : Int) := by omega
      have Hb := Lib.hid bw
      have HST := Lib.hid (fun h2 => runB_stop hlt HK.out.1 h2)
      have HON := Lib.hid (fun m2 h2 => runB_one (m2 := m2) hlt HK.out.1 h2)
      have HOK := Lib.hid HK.out.2
      obtain ⟨E, hE⟩ : ∃ E, E = ve evs k := ⟨_, rfl⟩
      rw [← hE] at e0 e1 e2 e3 e4 e5 e6 h64 HST HON
      obtain ⟨ek, lb, l, r, f, t, g⟩ := E
      replace e0 : wr.cell? ⟨b9, o + k * 7, none⟩ = some (.int .i64 ek) := e0
      replace e1 : wr.cell? ⟨b9, o + k * 7 + 1, none⟩ = some (.int .i64 lb) := e1
      replace e2 : wr.cell? ⟨b9, o + k * 7 + 2, none⟩ = some (.int .i64 l) := e2
      replace e3 : wr.cell? ⟨b9, o + k * 7 + 3, none⟩ = some (.int .i64 r) := e3
      replace e4 : wr.cell? ⟨b9, o + k * 7 + 4, none⟩ = some (.int .i64 f) := e4
      replace e5 : wr.cell? ⟨b9, o + k * 7 + 5, none⟩ = some (.int .i64 t) := e5
      replace e6 : wr.cell? ⟨b9, o + k * 7 + 6, none⟩ = some (.int .i64 g) := e6
      have H64 := Lib.hid h64
      clear hE h64 bw HK
      have hbd : Below wr.heap.size wr (wr.alloc (.cells #[.int .i64 ek, .int .i64 lb, .int .i64 l, .int .i64 r, .int .i64 f, .int .i64 t, .int .i64 g] 40)) := (Below.refl _ _).alloc (Nat.le_refl _) _
      have x_c10 := keepB hbd c10
      have x_c11 := keepB hbd c11
      have x_c12 := keepB hbd c12
      have x_c13 := keepB hbd c13
      go_wp2_with fail
      clear hbd x_c10 x_c11 x_c12 x_c13
      obtain ⟨wa, hw1⟩ : ∃ wa, wa = wr.alloc (.cells #[.int .i64 ek, .int .i64 lb, .int .i64 l, .int .i64 r, .int .i64 f, .int .i64 t, .int .i64 g] 40) := ⟨_, rfl⟩
      have y_0 : wa.cell? ⟨wr.heap.size, 0, none⟩ = some (.int .i64 ek) := by rw [hw1]; go_simp
      have y_1 : wa.cell? ⟨wr.heap.size, 1, none⟩ = some (.int .i64 lb) := by rw [hw1]; go_simp
      have y_2 : wa.cell? ⟨wr.heap.size, 2, none⟩ = some (.int .i64 l) := by rw [hw1]; go_simp
      have y_3 : wa.cell? ⟨wr.heap.size, 3, none⟩ = some (.int .i64 r) := by rw [hw1]; go_simp
      have y_4 : wa.cell? ⟨wr.heap.size, 4, none⟩ = some (.int .i64 f) := by rw [hw1]; go_simp
      have y_5 : wa.cell? ⟨wr.heap.size, 5, none⟩ = some (.int .i64 t) := by rw [hw1]; go_simp
      have y_6 : wa.cell? ⟨wr.heap.size, 6, none⟩ = some (.int .i64 g) := by rw [hw1]; go_simp
      have by_ : Below wr.heap.size wr wa := by rw [hw1]; exact (Below.refl _ _).alloc (Nat.le_refl _) _
      have zy_ : wr.heap.size < wa.heap.size := by rw [hw1]; simp
      rw [← hw1]
      clear hw1
      have Hes1 := Lib.hid (Hes.out.below by_ (Nat.le_refl _))
      have Hba := Lib.hid by_
      have hmba := Hmb.out.below by_ (by omega)
      clear by_ Hes
      refine (ApplyEvent_any (w.heap.size + 1 + 1) wr.heap.size _ ⟨es, a, b, z⟩ ⟨ek, lb, l, r, f, t, g⟩ wa Hes1.out.es (by omega) (Mil.i64 HOK.out) H64.out).mono ?_
      intro e x6 hpost
      rw [apV_ok _ HOK.out] at hpost
      obtain ⟨A6, n6, c6, ra, rb, rz, rs, rfl, b6, HG⟩ := hpost.gen
      clear hpost
      have Hb7 := Lib.hid (Hba.out.trans (b6.mono (by omega)))
      have hz7 : wa.heap.size ≤ x6.heap.size := b6.size
      have hmq := Hmb.out.below Hb7.out (by omega)
      have haq := Hma.out.below Hb7.out (by omega)
      have Hbq := Lib.hid (Hb.out.trans (Hb7.out.mono (by omega)))
      have Hmq := Lib.hid hmq
      have Haq := Lib.hid haq
      obtain ⟨⟨p00, p01, p02, p03⟩, ⟨g00, g01, g02, g03⟩⟩ := haq.cells
      obtain ⟨⟨p10, p11, p12, p13⟩, ⟨g10, g11, g12, g13⟩⟩ := hmq.cells
      obtain ⟨es', hn6, hes', hG⟩ := HG.out
      subst hn6
      have Hes' := Lib.hid hes'
      clear hmq haq hes' HG b6 Hmb Hma Hb Hba hmba c00 c01 c02 c03 c10 c11 c12 c13 f00 f01 f02 f03 f10 f11 f12 f13 e0 e1 e2 e3 e4 e5 e6 y_0 y_1 y_2 y_3 y_4 y_5 y_6
      have hx1 : w.heap.size + 1 < x6.heap.size := by omega
      have hx2 : w.heap.size < x6.heap.size := by omega
      rcases hG with ⟨rfl, hr⟩ | ⟨rfl, hr⟩
      · have HS := Lib.hid (HON.out _ hr)
        have HK' := Lib.hid (apE_ok hr)
        clear HON HST hr HOK H64
        go_wp2
        obtain ⟨w8, hw8⟩ : ∃ w8, w8 = (((x6.setCell ⟨w.heap.size + 1, 0, none⟩ (.slice A6 es'.length c6)).setCell ⟨w.heap.size + 1, 1, none⟩ (.int .i64 ra)).setCell ⟨w.heap.size + 1, 2, none⟩ (.int .i64 rb)).setCell ⟨w.heap.size + 1, 3, none⟩ (.int .i64 rz) := ⟨_, rfl⟩
        have hz8 : w8.heap.size = x6.heap.size := by rw [hw8]; simp [World.setCell]
        have ex : ∀ q, ¬ w.heap.size + 1 = q → w8.heap[q]? = x6.heap[q]? := fun q hq => by rw [hw8]; simp only [World.setCell, Array.getElem?_modify, if_neg hq]
        have hm8 : MB w8 (w.heap.size + 1) (.slice A6 es'.length c6) ra rb rz := by rw [hw8]; exact (((Hmq.out.set0 _).set1 _).set2 _).set3 _
        have ha8 := Haq.out.kept (ex _ (by omega))
        have he8 : OwnE w8 (w.heap.size + 1 + 1) x6.heap.size 35 82 38 (.slice A6 es'.length c6) es' := (Hes'.out.kept fun q hq _ => ex q (by omega)).wide (by omega) (Nat.le_refl _)
        have hb8 : Below w.heap.size w w8 := by rw [hw8]; exact (((Hbq.out.setCell (p := ⟨_, _, _⟩) (by simp) _).setCell (p := ⟨_, _, _⟩) (by simp) _).setCell (p := ⟨_, _, _⟩) (by simp) _).setCell (p := ⟨_, _, _⟩) (by simp) _
        rw [← hw8]
        clear hw8 ex
        obtain ⟨w9, hw9⟩ : ∃ w9, w9 = w8.alloc (.cells #[.slice A6 es'.length c6, .int .i64 ra, .int .i64 rb, .int .i64 rz] 25) := ⟨_, rfl⟩
        have b9' : Below w8.heap.size w8 w9 := by rw [hw9]; exact (Below.refl _ _).alloc (Nat.le_refl _) _
        have HM9 := Lib.hid (hm8.below b9' (by omega))
        have HA9 := Lib.hid (ha8.below b9' (by omega))
        have HE9 := Lib.hid ((he8.below b9' (by omega)).wide (Nat.le_refl _) (show x6.heap.size ≤ w9.heap.size by have := b9'.size; omega))
        have HB9 := Lib.hid (hb8.trans (b9'.mono (by omega)))
        have hz9 : w8.heap.size ≤ w9.heap.size := b9'.size
        rw [← hw9]
        clear hw9 hm8 ha8 he8 hb8 b9'
        go_roundw
        case rel => exact ⟨k + 1, ⟨es', ra, rb, rz⟩, A6, c6, by omega, by go_num, HB9.out, HM9.out, HA9.out, HE9.out, by omega, ⟨HS.out, HK'.out⟩⟩
        case measure => simp [intOf]; omega
      · have HS := Lib.hid (HST.out hr)
        clear HON HST hr HOK H64
        go_wp2
        refine bodyPost_ret (v := .tuple #[.agg #[.slice none 0 0, .int .i64 0, .int .i64 0, .int .i64 0], .bool false]) (by simp [results, Try.results24, go_sem, *]) rfl ?_
        rw [HR2.out, HS.out]
        exact OpPost.none ((((((Hbq.out.setCell (p := ⟨_, _, _⟩) (by simp) _).setCell (p := ⟨_, _, _⟩) (by simp) _).setCell (p := ⟨_, _, _⟩) (by simp) _).setCell (p := ⟨_, _, _⟩) (by simp) _)).alloc (by simp [World.setCell]; omega) _)
    · have hke : k = evs.length := by omega
      have HS := Lib.hid (show rbV evs = some ⟨es, a, b, z⟩ by have := HK.out.1; rw [hke, List.take_length] at this; rw [HR2.out]; exact this)
      have hnk : ¬ (k : Int) < (evs.length : Int) := by omega
      have Hb := Lib.hid bw
      clear HK bw hts
      obtain ⟨w9, hw9⟩ : ∃ w9, w9 = (((wr.setCell ⟨w.heap.size, 0, none⟩ (.slice A1 es.length c1)).setCell ⟨w.heap.size, 1, none⟩ (.int .i64 a)).setCell ⟨w.heap.size, 2, none⟩ (.int .i64 b)).setCell ⟨w.heap.size, 3, none⟩ (.int .i64 z) := ⟨_, rfl⟩
      have HE9 := Lib.hid (show OwnE w9 (w.heap.size + 1 + 1) wr.heap.size 35 82 38 (.slice A1 es.length c1) es by
        rw [hw9]
        exact Hes.out.kept fun q hq _ => by simp only [World.setCell, Array.getElem?_modify, if_neg (show ¬ w.heap.size = q by omega)])
      have HB9 := Lib.hid (show Below w.heap.size w w9 by rw [hw9]; exact (((Hb.out.setCell (p := ⟨_, _, _⟩) (by simp) _).setCell (p := ⟨_, _, _⟩) (by simp) _).setCell (p := ⟨_, _, _⟩) (by simp) _).setCell (p := ⟨_, _, _⟩) (by simp) _)
      have HZ9 := Lib.hid (show w9.heap.size = wr.heap.size by rw [hw9]; simp [World.setCell])
      have Hw9 := Lib.hid hw9
      clear hw9
      go_wp2
      refine bodyPost_ret (v := .tuple #[.agg #[.slice A1 es.length c1, .int .i64 a, .int .i64 b, .int .i64 z], .bool true]) (by simp [results, Try.results24, go_sem, *]) rfl ?_
      rw [← Hw9.out, HS.out]
      exact OpPost.some HB9.out (HE9.out.wide (by omega) (by have := HZ9.out; omega))
end Go.Proofs.Ytcebdokdekgeaaa
