/-
  twin: a copy of clauses. No condition but that the clauses lie as told.
  learnt: a copy of what was learnt. No condition but that it lies as told.
-/
import Derived.Test.YtjjlcnjhmkackaaSorted
set_option linter.unusedVariables false
set_option linter.unusedSimpArgs false
namespace Go.Proofs.Ytjjlcnjhmkackaa.T
open Go.RowKit Go.Proofs.YtjjlcnjhmkackaaW.PrintWords Go.Proofs.YtjjlcnjhmkackaaW.PrintLast Go.Proofs.YtjjlcnjhmkackaaW.PrintMore
open Go.Proofs.Ytjjlcnjhmkackaa.PA Go.MapII Go.Proofs

theorem info27 : (Try.prog.info? 27).map (fun i => (i.zero, i.size, i.bytes)) = some (some (.slice none 0 0), 1, 24) := by kernel_rfl
theorem set_next {vs : List Value} {m k : Nat} {v z : Value} (hk : vs.length = k) : (vs ++ List.replicate (m + 1) z).toArray.setIfInBounds k v = ((vs ++ [v]) ++ List.replicate m z).toArray := by
  rw [List.setIfInBounds_toArray, List.set_append_right _ _ (by omega)]
  have : k - vs.length = 0 := by omega
  rw [this, List.replicate_succ, List.set_cons_zero, List.append_assoc]
  rfl

/-- clauses copied so far -/
def Cop (b k n : Nat) (C : List (List Int)) (w : World) : Prop :=
  ∃ vs : List Value, vs.length = k ∧ w.heap[b]? = some (.cells (vs ++ List.replicate (n - k) (Value.slice none 0 0)).toArray 27 (0, 0)) ∧
    ∀ j cl, j < k → C[j]? = some cl → ∃ A c, vs[j]? = some (.slice A cl.length c) ∧ cl.length ≤ c ∧ w.ownsRow (b + 1) 3 1 (.slice A cl.length c) cl.length (nums .i64 cl)
theorem own_cap {w : World} {B n c : Nat} {e : TypeId} {A : Option Addr} {xs : List Value} (h : w.ownsRow B e 1 (.slice A n c) n xs) : n ≤ c := by
  rcases h.2 with ⟨h1, h2⟩ | ⟨g, cap, cur, h1, _, _, h2, _⟩
  · omega
  · injection h1 with _ _ h3; omega
theorem Cop.below {b k n : Nat} {C : List (List Int)} {w w' : World} (h : Cop b k n C w) (hb : Below w.heap.size w w') : Cop b k n C w' := by
  obtain ⟨vs, h1, h2, h3⟩ := h
  refine ⟨vs, h1, (hb.block _ (Array.getElem?_eq_some_iff.1 h2).1).trans h2, fun j cl hj hc => ?_⟩
  obtain ⟨A, c, h4, h5, h6⟩ := h3 j cl hj hc
  exact ⟨A, c, h4, h5, pw_own_below h6 hb⟩
theorem Cop.put {b k n : Nat} {C : List (List Int)} {w : World} (h : Cop b k n C w) (hk : k < n) {cl : List Int} (hc : C[k]? = some cl) {A : Option Addr} {c : Nat} (ho : w.ownsRow (b + 1) 3 1 (.slice A cl.length c) cl.length (nums .i64 cl)) :
    Cop b (k + 1) n C (w.setCell ⟨b, k, none⟩ (.slice A cl.length c)) := by
  obtain ⟨vs, h1, h2, h3⟩ := h
  obtain ⟨m, hm⟩ : ∃ m, n - k = m + 1 := ⟨n - k - 1, by omega⟩
  have hm2 : n - (k + 1) = m := by omega
  have hne : ∀ {v : Value} {x : Nat} {ys : List Value}, w.ownsRow (b + 1) 3 1 v x ys → v.ownBlock ≠ some b := fun h e => by have := own_base h b e; omega
  refine ⟨vs ++ [.slice A cl.length c], by simp [h1], ?_, fun j cl' hj hc' => ?_⟩
  · rw [hm] at h2
    rw [hm2, blk_set h2, set_next h1]
  · by_cases e : j = k
    · subst e
      rw [hc] at hc'
      injection hc' with hc'
      subst hc'
      refine ⟨A, c, ?_, own_cap ho, ho.kept (grownBy_set _ _ _) (.inr (hne ho))⟩
      rw [List.getElem?_append_right (by omega)]
      have : j - vs.length = 0 := by omega
      rw [this]; rfl
    · obtain ⟨A', c', h4, h5, h6⟩ := h3 j cl' (by omega) hc'
      exact ⟨A', c', by rw [List.getElem?_append_left (by omega)]; exact h4, h5, h6.kept (grownBy_set _ _ _) (.inr (hne h6))⟩
theorem Cop.reads {b n : Nat} {C : List (List Int)} {w : World} (h : Cop b n n C w) (hn : C.length = n) (hl : n ≤ 9223372036854775807) : Kd.C (Kd.slice 3 (Kd.int .i64)) w (some ⟨b, 0, none⟩) n C := by
  obtain ⟨vs, h1, h2, h3⟩ := h
  refine ⟨hn, hl, fun hp => ⟨_, rfl, fun j cl hj => ?_⟩⟩
  have hjn : j < n := by have := (List.getElem?_eq_some_iff.1 hj).1; omega
  obtain ⟨A, c, h4, h5, h6⟩ := h3 j cl hjn hj
  refine ⟨[.slice A cl.length c], rfl, ⟨A, c, rfl, h5, Kd.C_of_reads (d := (0 : Int)) (h1 := fun _ => rfl) (own_reads' h6)⟩, fun i u hu => ?_⟩
  have hi : i = 0 := by
    cases i with
    | zero => rfl
    | succ i => simp at hu
  subst hi
  have hu2 : u = .slice A cl.length c := by simpa using hu.symm
  subst hu2
  have ha : (⟨b, 0, none⟩ : Addr).add (j * (Kd.slice 3 (Kd.int .i64)).sz + 0) = ⟨b, j, none⟩ := by
    rw [add_plain]
    have : j * (Kd.slice 3 (Kd.int .i64)).sz + 0 = j := by show j * 1 + 0 = j; omega
    rw [this]
  rw [ha]
  simp only [World.cell?, h2]
  have : (vs ++ List.replicate (n - n) (Value.slice none 0 0))[j]? = some (.slice A cl.length c) := by rw [Nat.sub_self]; simpa using h4
  simpa using this

set_option maxRecDepth 100000 in
/-- twin -/
theorem twin_calls {w : World} {A : Option Addr} {cc : Nat} {C : List (List Int)} (hC : Kd.C (Kd.slice 3 (Kd.int .i64)) w A C.length C) (hcc : C.length ≤ cc) (hl : C.length ≤ 1048576) (hbC : ∀ c ∈ C, c.length ≤ 1048576) :
    Calls Try.prog 5 #[.slice A C.length cc] w fun e w' => ∃ b, e = .returned (.slice (some ⟨b, 0, none⟩) C.length C.length) ∧ Kd.C (Kd.slice 3 (Kd.int .i64)) w' (some ⟨b, 0, none⟩) C.length C ∧ Below w.heap.size w w' := by
  have HCR := Aside0.mk hC
  have HBC := Aside0.mk hbC
  have hms : ∀ W : World, (Instr.makeSlice 22 (.int .i64 (C.length : Int)) (.int .i64 (C.length : Int))).run Try.prog W = .ok (.slice (some ⟨W.heap.size, 0, none⟩) C.length C.length) (W.alloc (.cells (madeCells #[.slice none 0 0] C.length) 27)) := by
    intro W
    exact run_make_row' 22 27 (.slice none 0 0) 24 Try.underlying22 info27 rfl .i64 .i64 C.length (by omega) (by omega) W
  clear hC hbC
  go_enter Try.func5, Try.ntmps5
  go_wp2
  clear hms
  have hC0 : Cop w.heap.size 0 C.length C (w.alloc (.cells (madeCells #[.slice none 0 0] C.length) 27)) := by
    refine ⟨[], rfl, ?_, fun j cl hj => by omega⟩
    have h := heap_alloc_new w (.cells (madeCells #[.slice none 0 0] C.length) 27)
    have hm : madeCells #[.slice none 0 0] C.length = ([] ++ List.replicate (C.length - 0) (Value.slice none 0 0)).toArray := by
      apply Array.ext
      · simp [size_madeCells]
      · intro i h1 h2
        simp [madeCells, Nat.mod_one]
    rw [← hm]; exact h
  obtain ⟨w0, hw0⟩ : ∃ w0, w0 = w.alloc (.cells (madeCells #[.slice none 0 0] C.length) 27) := ⟨_, rfl⟩
  have hB0 : Below w.heap.size w w0 := by rw [hw0]; exact below_alloc (Below.refl _ _) _
  have hz0 : w.heap.size + 1 ≤ w0.heap.size := by rw [hw0]; simp
  rw [← hw0] at hC0 ⊢
  have HC0 := Aside0.mk hC0
  have HB0 := Aside0.mk hB0
  clear hC0 hB0 hw0
  go_loopw [4] (fun i wr => ∃ (k : Nat), k ≤ C.length ∧ i = .int .i64 k ∧ Aside0 (Cop w.heap.size k C.length C wr) ∧ Aside0 (Below w.heap.size w wr) ∧ w.heap.size + 1 ≤ wr.heap.size) (fun i _ => C.length - (intOf i).toNat)
  case atStart => exact ⟨0, Nat.zero_le _, rfl, HC0, HB0, hz0⟩
  case round =>
    obtain ⟨k, hk, rfl, HCk, HBk, hzk⟩ := hrel
    by_cases hlt : k < C.length
    · obtain ⟨adC, A0, cc0, eC, hcl, hle, hcr⟩ := at_L1 (Kd.C_below HCR.out HBk.out) (k : Int) (by omega) (by omega)
      subst eC
      obtain ⟨cl, hcle⟩ : ∃ cl, cl = rd_L1 C (k : Int) := ⟨_, rfl⟩
      have HCE : Aside0 (C[k]? = some cl) := ⟨by rw [hcle]; simp [rd_L1, List.getD_eq_getElem?_getD, List.getElem?_eq_getElem hlt]⟩
      have hbl : cl.length ≤ 1048576 := HBC.out cl (List.mem_of_getElem? HCE.out)
      rw [← hcle] at hcl hle hcr
      rw [Int.toNat_natCast] at hcl
      have HCRk := Aside0.mk hcr
      clear hcle hcr
      go_wp2_with (first
        | (go_at_call 17; refine (ints_calls HCRk.out hle (by omega)).mono ?_; rintro e w1 ⟨v1, rfl, ho1, hb1⟩; obtain ⟨A1, c1, rfl⟩ := own_slice ho1; have HC1 := Aside0.mk (HCk.out.below hb1); have HO1 := Aside0.mk (own_mono ho1 hzk); have HB1 : Aside0 (Below w.heap.size w w1) := ⟨HBk.out.trans (hb1.mono (by omega))⟩; have hz1 := hb1.size; obtain ⟨vs, hv1, hv2, _⟩ := HC1.out; have y0 : w1.cell? ⟨w.heap.size, k, none⟩ = some (.slice none 0 0) := (by simp only [World.cell?, hv2]; have hh : (vs ++ List.replicate (C.length - k) (Value.slice none 0 0))[k]? = some (.slice none 0 0) := (by rw [List.getElem?_append_right (by omega)]; have h0 : k - vs.length = 0 := (by omega); rw [h0]; obtain ⟨m, hm⟩ : ∃ m, C.length - k = m + 1 := ⟨C.length - k - 1, by omega⟩; rw [hm, List.replicate_succ]; rfl); simpa using hh); have y1 : w1.frozen? ⟨w.heap.size, k, none⟩ = false := (by simp [World.frozen?, hv2]); clear ho1 hb1 hv2))
      go_roundw
      case rel => exact ⟨k + 1, by omega, by go_num, ⟨HC1.out.put hlt HCE.out HO1.out⟩, ⟨HB1.out.setCell (Nat.le_refl _) _⟩, by simp; omega⟩
      case measure => simp [intOf]; omega
    · have hkn : k = C.length := by omega
      subst hkn
      go_wp2
      go_ret
      exact ⟨_, rfl, HCk.out.reads rfl (by omega), HBk.out⟩
end Go.Proofs.Ytjjlcnjhmkackaa.T
set_option linter.unusedVariables false
set_option linter.unusedSimpArgs false
namespace Go.Proofs.Ytjjlcnjhmkackaa.T
open Go.RowKit Go.Proofs.YtjjlcnjhmkackaaW.PrintWords Go.Proofs.YtjjlcnjhmkackaaW.PrintLast Go.Proofs.YtjjlcnjhmkackaaW.PrintMore
open Go.Proofs.Ytjjlcnjhmkackaa.PA Go.MapII Go.Proofs

theorem reads_C {w : World} {A : Option Addr} {n : Nat} {xs : List Int} (h : ReadsInt w .i64 A n xs) : Kd.C (Kd.int .i64) w A n xs := Kd.C_of_reads (d := (0 : Int)) (h1 := fun _ => rfl) h

set_option maxRecDepth 100000 in
/-- learnt -/
theorem learnt_calls {w : World} {AC AN : Option Addr} {cC cN : Nat} {cl ch : List Int} (b : Int) (hC : ReadsInt w .i64 AC cl.length cl) (hcC : cl.length ≤ cC) (hN : ReadsInt w .i64 AN ch.length ch) (hcN : ch.length ≤ cN) (hlC : cl.length ≤ 8796093022208) (hlN : ch.length ≤ 8796093022208) :
    Calls Try.prog 9 #[.agg #[.slice AC cl.length cC, .int .i64 b, .slice AN ch.length cN]] w fun e w' => ∃ A1 c1 A2 c2, e = .returned (.agg #[.slice A1 cl.length c1, .int .i64 b, .slice A2 ch.length c2]) ∧ ReadsInt w' .i64 A1 cl.length cl ∧ ReadsInt w' .i64 A2 ch.length ch ∧ Below w.heap.size w w' := by
  have HC := Aside0.mk hC
  have HN := Aside0.mk hN
  clear hC hN
  go_enter Try.func9, Try.ntmps9
  go_wp2
  obtain ⟨wA, hwA⟩ : ∃ wA, wA = (w.alloc (.cells #[.slice AC cl.length cC, .int .i64 b, .slice AN ch.length cN] 29)).alloc (.cells #[.slice none 0 0, .int .i64 0, .slice none 0 0] 29) := ⟨_, rfl⟩
  have hbA : Below w.heap.size w wA := by rw [hwA]; exact below_alloc (below_alloc (Below.refl _ _) _) _
  have hzA : wA.heap.size = w.heap.size + 2 := by rw [hwA]; simp
  have hb5 : wA.heap[w.heap.size]? = some (.cells #[.slice AC cl.length cC, .int .i64 b, .slice AN ch.length cN] 29 (0, 0)) := by
    rw [hwA]
    have h := heap_alloc_new w (.cells #[.slice AC cl.length cC, .int .i64 b, .slice AN ch.length cN] 29)
    exact (Below.heap_alloc _ _ _ (by simp)).trans h
  have hb6 : wA.heap[w.heap.size + 1]? = some (.cells #[.slice none 0 0, .int .i64 0, .slice none 0 0] 29 (0, 0)) := by
    rw [hwA]
    have h := heap_alloc_new (w.alloc (.cells #[.slice AC cl.length cC, .int .i64 b, .slice AN ch.length cN] 29)) (.cells #[.slice none 0 0, .int .i64 0, .slice none 0 0] 29)
    simpa using h
  rw [← hwA]
  clear hwA
  obtain ⟨l0, l1, l2, _⟩ := cells3 hb5
  have HBA := Aside0.mk hbA
  have HB6 := Aside0.mk hb6
  clear hb5 hb6 hbA
  refine Reg.by_order [(0, false), (1, false), (3, false), (4, false), (5, false), (6, false), (2, true), (7, true), (8, false), (9, true)] [9] (fun W => W.cell? ⟨w.heap.size, 0, none⟩ = some (.slice AC cl.length cC) ∧ W.cell? ⟨w.heap.size, 1, none⟩ = some (.int .i64 b) ∧ W.cell? ⟨w.heap.size, 2, none⟩ = some (.slice AN ch.length cN)) (by kernel_rfl) (by kernel_rfl) (fun _ _ d _ _ h => by cases d <;> exact h) ⟨l0, l1, l2⟩ ?_
  iterate 6
    refine Reg.held_at (v := ?_) rfl rfl rfl ?_ ?_
    rotate_left
    · intro W hW
      obtain ⟨h1, h2, h3⟩ := hW
      go_simp
      first | done | rfl
    go_frame
  refine Reg.eff_on rfl rfl (fun K hK => ?_)
  go_simp
  refine (ints_calls (w := wA.drew) (reads_C (HC.out.below (HBA.out.trans ⟨rfl, rfl, rfl, Nat.le_refl _, fun _ _ => rfl⟩))) hcC (by omega)).mono ?_
  rintro e w1 ⟨v1, rfl, ho1, hb1⟩
  obtain ⟨A1, c1, rfl⟩ := own_slice ho1
  have hb1' : Below wA.heap.size wA w1 := (show Below wA.heap.size wA wA.drew from ⟨rfl, rfl, rfl, Nat.le_refl _, fun _ _ => rfl⟩).trans hb1
  have m0 := pw_cell_below hb1' l0
  have m1 := pw_cell_below hb1' l1
  have m2 := pw_cell_below hb1' l2
  refine hK _ _ (fun _ => ⟨m0, m1, m2⟩) ?_
  clear hK
  refine Reg.eff_on rfl rfl (fun K hK => ?_)
  go_simp
  refine (ints_calls (w := w1) (reads_C (HN.out.below (HBA.out.trans (hb1'.mono (by omega))))) hcN (by omega)).mono ?_
  rintro e w2 ⟨v2, rfl, ho2, hb2⟩
  obtain ⟨A2, c2, rfl⟩ := own_slice ho2
  refine hK _ _ (fun _ => ⟨pw_cell_below hb2 m0, pw_cell_below hb2 m1, pw_cell_below hb2 m2⟩) ?_
  clear hK
  have HB2 : Aside0 (Below wA.heap.size wA w2) := ⟨hb1'.trans (hb2.mono hb1'.size)⟩
  have HO1 : Aside0 (w2.ownsRow wA.heap.size 3 1 (.slice A1 cl.length c1) cl.length (nums .i64 cl)) := ⟨pw_own_below ho1 hb2⟩
  have HO2 : Aside0 (w2.ownsRow wA.heap.size 3 1 (.slice A2 ch.length c2) ch.length (nums .i64 ch)) := ⟨own_mono ho2 hb1'.size⟩
  clear ho1 ho2 hb1 hb1' hb2 m0 m1 m2 l0 l1 l2
  refine Reg.held_at (v := ?_) rfl rfl rfl ?_ ?_
  rotate_left
  · intro W hW
    go_simp
    first | done | rfl
  go_frame
  have hr : w2.heap[w.heap.size + 1]? = some (.cells #[.slice none 0 0, .int .i64 0, .slice none 0 0] 29 (0, 0)) := (HB2.out.block _ (by omega)).trans HB6.out
  obtain ⟨r0, r1, r2, zr⟩ := cells3 hr
  have zr0 := zr 0
  have zr1 := zr 1
  have zr2 := zr 2
  have HR := Aside0.mk hr
  clear zr hr
  refine Reg.eff_on rfl rfl (fun K hK => ?_)
  go_simp
  refine hK _ _ (fun h => absurd (by decide) h) ?_
  clear hK
  refine Reg.nil_ ?_
  go_wp2
  obtain ⟨q0, q1, q2, _⟩ := cells3 (set3 HR.out (.slice A1 cl.length c1) (.int .i64 b) (.slice A2 ch.length c2))
  have k1 := HO1.out.kept (grownBy_set3 (b := w.heap.size + 1) (.slice A1 cl.length c1) (.int .i64 b) (.slice A2 ch.length c2)) (.inr fun e => by have := own_base HO1.out _ e; omega)
  have k2 := HO2.out.kept (grownBy_set3 (b := w.heap.size + 1) (.slice A1 cl.length c1) (.int .i64 b) (.slice A2 ch.length c2)) (.inr fun e => by have := own_base HO2.out _ e; omega)
  refine bodyPost_ret (v := .agg #[.slice A1 cl.length c1, .int .i64 b, .slice A2 ch.length c2]) ?_ rfl ⟨A1, c1, A2, c2, rfl, own_reads' k1, own_reads' k2, below_set3 (HBA.out.trans (HB2.out.mono (by omega))) (Nat.le_succ _) _ _ _⟩
  simp [results, Try.results9, go_sem, q0, q1, q2]
end Go.Proofs.Ytjjlcnjhmkackaa.T
