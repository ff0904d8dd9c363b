/-
  teaches: at what First and Less teach it answers true. No condition but that all lies as told.
-/
import Derived.Test.YtjjlcnjhmkackaaGoodP
set_option linter.unusedVariables false
set_option linter.unusedSimpArgs false
namespace Go.Proofs.Ytjjlcnjhmkackaa.T
open Go.RowKit Go.Proofs.YtjjlcnjhmkackaaW.PrintWords Go.Proofs.YtjjlcnjhmkackaaW.PrintLast Go.Proofs.YtjjlcnjhmkackaaW.PrintMore
open Go.Proofs.Ytjjlcnjhmkackaa.PA Go.MapII Go.Proofs

theorem backF_lt {f : Int → Option Int} {M : List S54} {b : Int} : ∀ (l : List Int) (m : Int), m < b → (∀ y ∈ l, lvl f M y < b) → l.foldl (fun m x => max m (lvl f M x)) m < b
  | [], m, h, _ => h
  | y :: l, m, h, ha => by
    rw [List.foldl_cons]
    have := ha y (by simp)
    exact backF_lt l _ (by omega) (fun z hz => ha z (by simp [hz]))

set_option maxRecDepth 100000 in
set_option maxHeartbeats 1000000 in
/-- teaches -/
theorem teaches_calls {w : World} {Ac Am AC AN : Option Addr} {cc cm cC cN : Nat} {C : List (List Int)} {M : List S54} (hC : Kd.C (Kd.slice 3 (Kd.int .i64)) w Ac C.length C) (hcc : C.length ≤ cc) (hMr : Kd.C k54 w Am M.length M) (hcm : M.length ≤ cm) (hfC : ∀ c ∈ C, ∀ x ∈ c, Fits x) (hM : M.length ≤ 1048576) (hCl : C.length ≤ 1048576) (hbC : ∀ c ∈ C, c.length ≤ 1048576)
    {f : Int → Option Int} {lv : Int} (V : VI f C M M.length lv) {x0 : Int} {F ch : List Int} (G : Good f C M x0 F ch) (hR : ReadsInt w .i64 AC (x0 :: restF x0 F).length (x0 :: restF x0 F)) (hcC : (x0 :: restF x0 F).length ≤ cC) (hN : ReadsInt w .i64 AN ch.length ch) (hcN : ch.length ≤ cN) (hlN : ch.length ≤ 8796093022208) :
    Calls Try.prog 10 #[.agg #[.slice Ac C.length cc, .slice Am M.length cm], .agg #[.slice AC (x0 :: restF x0 F).length cC, .int .i64 (backF f M (restF x0 F)), .slice AN ch.length cN]] w fun e w' => e = .returned (.bool true) ∧ Below w.heap.size w w' := by
  have hM' : M.length ≤ 1099511627776 := by omega
  have VD := Aside0.mk (V.vd hfC)
  have HP := Aside0.mk (V.places hM')
  have VV := Aside0.mk V
  have GG := Aside0.mk G
  have HCR := Aside0.mk hC
  have HMR := Aside0.mk hMr
  have HFC := Aside0.mk hfC
  have HBC := Aside0.mk hbC
  have HR := Aside0.mk hR
  have HN := Aside0.mk hN
  have hFl : F.length ≤ M.length := G.fall.len VD.out
  have HLT : Aside0 (Lits (x0 :: restF x0 F)) := ⟨V.lits G.fall G.perm⟩
  have HPM : Aside0 ((x0 :: restF x0 F).Perm F) := ⟨G.perm⟩
  have hlr : (x0 :: restF x0 F).length ≤ 1048576 := by have := G.perm.length_eq; omega
  obtain ⟨cl, hcl⟩ : ∃ cl, cl = x0 :: restF x0 F := ⟨_, rfl⟩
  have HCLE := Aside0.mk hcl
  rw [← hcl] at HR hcC HLT HPM hlr ⊢
  obtain ⟨back, hback⟩ : ∃ back, back = backF f M (restF x0 F) := ⟨_, rfl⟩
  have HBACK := Aside0.mk hback
  rw [← hback]
  have hcl1 : 0 < cl.length := by rw [hcl]; simp
  clear hC hMr hfC hbC hR hN V G hcl hback
  go_enter Try.func10, Try.ntmps10
  go_wp2
  obtain ⟨wA, hwA⟩ : ∃ wA, wA = (w.alloc (.cells #[.slice Ac C.length cc, .slice Am M.length cm] 25)).alloc (.cells #[.slice AC cl.length cC, .int .i64 back, .slice AN ch.length cN] 29) := ⟨_, rfl⟩
  have hbA : Below w.heap.size w wA := by rw [hwA]; exact below_alloc (below_alloc (Below.refl _ _) _) _
  have hzA : wA.heap.size = w.heap.size + 2 := by rw [hwA]; simp
  have hb5 : wA.heap[w.heap.size]? = some (.cells #[.slice Ac C.length cc, .slice Am M.length cm] 25 (0, 0)) := by
    rw [hwA]
    have h := heap_alloc_new w (.cells #[.slice Ac C.length cc, .slice Am M.length cm] 25)
    exact (Below.heap_alloc _ _ _ (by simp)).trans h
  have hb6 : wA.heap[w.heap.size + 1]? = some (.cells #[.slice AC cl.length cC, .int .i64 back, .slice AN ch.length cN] 29 (0, 0)) := by
    rw [hwA]
    have h := heap_alloc_new (w.alloc (.cells #[.slice Ac C.length cc, .slice Am M.length cm] 25)) (.cells #[.slice AC cl.length cC, .int .i64 back, .slice AN ch.length cN] 29)
    simpa using h
  rw [← hwA]
  clear hwA
  have k0 : wA.cell? ⟨w.heap.size, 0, none⟩ = some (.slice Ac C.length cc) := by simp [World.cell?, hb5]
  have k1 : wA.cell? ⟨w.heap.size, 1, none⟩ = some (.slice Am M.length cm) := by simp [World.cell?, hb5]
  obtain ⟨l0, l1, l2, _⟩ := cells3 hb6
  have HBA := Aside0.mk hbA
  have HK1 := Aside0.mk k1
  have HL0 := Aside0.mk l0
  have HL1 := Aside0.mk l1
  clear hb5 hb6 hbA k1 l0 l1
  refine Reg.by_order [(0, false), (1, false), (3, false), (4, false), (2, true), (5, true), (6, true), (7, false), (8, false), (9, false), (10, false), (11, false)] [] (fun W => W.cell? ⟨w.heap.size, 0, none⟩ = some (.slice Ac C.length cc) ∧ W.cell? ⟨w.heap.size + 1, 2, none⟩ = some (.slice AN ch.length cN)) (by kernel_rfl) (by kernel_rfl) (fun _ _ d _ _ h => by cases d <;> exact h) ⟨k0, l2⟩ ?_
  iterate 4
    refine Reg.held_at (v := ?_) rfl rfl rfl ?_ ?_
    rotate_left
    · intro W hW
      obtain ⟨h1, h2⟩ := hW
      go_simp
      first | done | rfl
    go_frame
  refine Reg.eff_on rfl rfl (fun K hK => ?_)
  go_simp
  refine (twin_calls (w := wA.drew) (Kd.C_below HCR.out (HBA.out.trans ⟨rfl, rfl, rfl, Nat.le_refl _, fun _ _ => rfl⟩)) hcc hCl HBC.out).mono ?_
  rintro e w1 ⟨b1, rfl, hC1, hb1⟩
  have hb1' : Below wA.heap.size wA w1 := (show Below wA.heap.size wA wA.drew from ⟨rfl, rfl, rfl, Nat.le_refl _, fun _ _ => rfl⟩).trans hb1
  have m0 := pw_cell_below hb1' k0
  have m2 := pw_cell_below hb1' l2
  refine hK _ _ (fun _ => ⟨m0, m2⟩) ?_
  clear hK
  refine Reg.eff_on rfl rfl (fun K hK => ?_)
  go_simp
  refine (ints_calls (w := w1) (reads_C (HN.out.below (HBA.out.trans (hb1'.mono (by omega))))) hcN (by omega)).mono ?_
  rintro e w2 ⟨v2, rfl, ho2, hb2⟩
  obtain ⟨A2, c2, rfl⟩ := own_slice ho2
  refine hK _ _ (fun _ => ⟨pw_cell_below hb2 m0, pw_cell_below hb2 m2⟩) ?_
  clear hK
  have hb12 : Below wA.heap.size wA w2 := hb1'.trans (hb2.mono hb1'.size)
  have hchne : ch ≠ [] := by have := GG.out.ch_pos; intro e; rw [e] at this; simp at this
  have hFne : F ≠ [] := fun e => by have := GG.out.mem; rw [e] at this; simp at this
  refine Reg.eff_on rfl rfl (fun K hK => ?_)
  go_simp
  refine (replay_calls (w := w2) (Kd.C_below hC1 hb2) (Nat.le_refl _) HFC.out HBC.out (own_reads' ho2) hchne f HP.out (fun F hF => Nat.le_trans (hF.len VD.out) hM) F GG.out.tr (fun a ha b hb => HLT.out.inj a (HPM.out.mem_iff.2 ha) b (HPM.out.mem_iff.2 hb)) hFne).mono ?_
  rintro e w3 ⟨v3, ys, rfl, ho3, hy1, hy2, hb3⟩
  obtain ⟨A3, c3, rfl⟩ := own_slice ho3
  refine hK _ _ (fun _ => ⟨pw_cell_below hb3 (pw_cell_below hb2 m0), pw_cell_below hb3 (pw_cell_below hb2 m2)⟩) ?_
  clear hK
  have HB3 : Aside0 (Below wA.heap.size wA w3) := ⟨hb12.trans (hb3.mono hb12.size)⟩
  have HO3 := Aside0.mk ho3
  have HY1 := Aside0.mk hy1
  have HY2 := Aside0.mk hy2
  clear hb12 hb3 ho3 hy1 hy2 hb1 hb1' hb2 ho2 hC1 m0 m2 k0 l2 hchne hFne
  iterate 5
    refine Reg.held_at (v := ?_) rfl rfl rfl ?_ ?_
    rotate_left
    · intro W hW
      go_simp
      first | done | rfl
    go_frame
  refine Reg.nil_ ?_
  have hz3 := HB3.out.size
  have HBW : Aside0 (Below w.heap.size w w3) := ⟨HBA.out.trans (HB3.out.mono (by omega))⟩
  have hne0 : ((cl.length : Int) == 0) = false := beq_eq_false_iff_ne.2 (by omega)
  have n0 := pw_cell_below HB3.out HL0.out
  go_wp2_with (first
    | (go_at_call 23; refine (sorted_calls (w := w3) (reads_C (HR.out.below HBW.out)) hcC (by omega) HLT.out).mono ?_; rintro e w4 ⟨v4, zs, rfl, ho4, hz1, hz2, hb4⟩; obtain ⟨A4, c4, rfl⟩ := own_slice ho4; have HEQ : Aside0 (ys = zs) := ⟨atoms_unique HLT.out (HY1.out.trans HPM.out.symm) hz1 HY2.out (hz2.imp fun h => Int.le_of_lt h)⟩; have HO4 := Aside0.mk ho4; have HO3' := Aside0.mk (pw_own_below HO3.out hb4); have HB4 := Aside0.mk hb4; have hyl : ys.length ≤ 1048576 := (by have := HY1.out.length_eq; have := HPM.out.length_eq; omega); clear ho4 hz1 hz2 hb4)
    | (go_at_call 18; refine (same_calls (w := w4) (reads_C (own_reads' HO3'.out)) (own_cap HO3'.out) (reads_C (own_reads' HO4.out)) (own_cap HO4.out) (by omega)).mono ?_; rw [show decide (ys = zs) = true from decide_eq_true HEQ.out]; rintro e w' ⟨rfl, hd⟩; obtain ⟨nd, rfl⟩ := hd.out; clear hd))
  have HB4w : Aside0 (Below w.heap.size w (w4.drewN nd)) := ⟨pw_below_drewN (HBW.out.trans (HB4.out.mono (by omega))) nd⟩
  have HB43 : Aside0 (Below wA.heap.size wA (w4.drewN nd)) := ⟨pw_below_drewN (HB3.out.trans (HB4.out.mono HB3.out.size)) nd⟩
  obtain ⟨w5, hw5⟩ : ∃ w5, w5 = w4.drewN nd := ⟨_, rfl⟩
  rw [← hw5] at HB4w HB43 ⊢
  have hmem0 : x0 ∈ F := GG.out.mem
  have HX0 : Aside0 ((f (neg x0)).isSome = true) := ⟨GG.out.fall.isf x0 hmem0⟩
  have p1 := pw_cell_below HB43.out HK1.out
  have p0 := pw_cell_below HB43.out HL0.out
  obtain ⟨adl, e0, hx0⟩ := (HR.out.below HB4w.out).at_ 0 (Int.le_refl _) (by omega)
  subst e0
  have px : w5.cell? adl = some (.int .i64 x0) := by
    have h := hx0
    rw [HCLE.out] at h
    simpa [Addr.add, rd] using h
  clear hx0 hw5 n0 hmem0
  refine Reg.by_order [(0, false), (1, false), (2, false), (3, false), (4, false), (5, false), (6, true), (7, false)] [] (fun W => W.cell? ⟨w.heap.size, 1, none⟩ = some (.slice Am M.length cm) ∧ W.cell? ⟨w.heap.size + 1, 0, none⟩ = some (.slice (some adl) cl.length cC) ∧ W.cell? adl = some (.int .i64 x0)) (by kernel_rfl) (by kernel_rfl) (fun _ _ d _ _ h => by cases d <;> exact h) ⟨p1, p0, px⟩ ?_
  iterate 6
    refine Reg.held_at (v := ?_) rfl rfl rfl ?_ ?_
    rotate_left
    · intro W hW
      obtain ⟨h1, h2, h3⟩ := hW
      go_simp
      first | done | rfl
    go_frame
  refine Reg.eff_on rfl rfl (fun K hK => ?_)
  go_simp
  refine (level_calls (w := w5.drew) (Kd.C_below HMR.out (HB4w.out.trans ⟨rfl, rfl, rfl, Nat.le_refl _, fun _ _ => rfl⟩)) hcm hM' VD.out VV.out.back x0 HX0.out).mono ?_
  rintro e w' ⟨rfl, hd⟩
  obtain ⟨nd2, rfl⟩ := hd.out
  refine hK _ _ (fun _ => ⟨p1, p0, px⟩) ?_
  clear hK hd
  refine Reg.held_at (v := ?_) rfl rfl rfl ?_ ?_
  rotate_left
  · intro W hW
    go_simp
    first | done | rfl
  go_frame
  refine Reg.nil_ ?_
  go_wp2
  obtain ⟨w6, hw6⟩ : ∃ w6, w6 = w5.drew.drewN nd2 := ⟨_, rfl⟩
  have HB6 : Aside0 (Below wA.heap.size wA w6) := ⟨by rw [hw6]; exact ⟨HB43.out.os, HB43.out.tape, HB43.out.output, HB43.out.size, HB43.out.block⟩⟩
  rw [← hw6]
  clear hw6 p1 p0 px
  obtain ⟨cr, hcr⟩ : ∃ cr, cr = restF x0 F := ⟨_, rfl⟩
  rw [← hcr] at HCLE HBACK
  have hlcr1 : cl.length ≤ cr.length + 1 := by rw [HCLE.out]; simp
  have hlcr2 : cr.length + 1 ≤ cl.length := by rw [HCLE.out]; simp
  have HCR2 := Aside0.mk hcr
  clear hcr
  go_loopw [8, 9] (fun v i wr => ∃ (j : Nat), j ≤ cr.length ∧ i = .int .i64 ((j + 1 : Nat) : Int) ∧ v = .int .i64 (backF f M (cr.take j)) ∧ Aside0 (Below wA.heap.size wA wr)) (fun _ i _ => cl.length - (intOf i).toNat)
  case atStart => exact ⟨0, Nat.zero_le _, rfl, rfl, HB6⟩
  case round =>
    obtain ⟨j, hj, rfl, rfl, HBj⟩ := hrel
    have HBw : Aside0 (Below w.heap.size w wr) := ⟨HBA.out.trans (HBj.out.mono (by omega))⟩
    have p1 := pw_cell_below HBj.out HK1.out
    have p0 := pw_cell_below HBj.out HL0.out
    by_cases hlj : j < cr.length
    · obtain ⟨ad2, e2, hx⟩ := (HR.out.below HBw.out).at_ ((j + 1 : Nat) : Int) (by omega) (by omega)
      cases e2
      have HTK := Aside0.mk (take_rd hlj)
      obtain ⟨y, hy⟩ : ∃ y, y = rd cr (j : Int) := ⟨_, rfl⟩
      have hym : y ∈ restF x0 F := by rw [hy, ← HCR2.out]; exact rd_mem hlj
      obtain ⟨hyF, hyx⟩ := mem_restF.1 hym
      have hry : rd cl ((j + 1 : Nat) : Int) = y := by
        rw [hy, HCLE.out]
        simp [rd]
      rw [hry, Int.toNat_natCast] at hx
      have ha1 : adl.add (j + 1) = ⟨adl.block, adl.off + (j + 1), none⟩ := by simp [Addr.add]
      rw [ha1] at hx
      clear ha1
      rw [← hy] at HTK
      have HYs : Aside0 ((f (neg y)).isSome = true) := ⟨GG.out.fall.isf y hyF⟩
      have hp := VD.out.lvl_pos HYs.out
      have hp0 := GG.out.pos y hyF
      have hp1 := GG.out.one y hyF hyx
      obtain ⟨vy, hvy⟩ : ∃ vy, vy = lvl f M y := ⟨_, rfl⟩
      have HVY := Aside0.mk hvy
      rw [← hvy] at hp hp0 hp1
      have hv1 : ¬ vy < 1 := by omega
      have hv2 : ¬ vy ≥ lvl f M x0 := by omega
      have hv1b : decide (vy < 1) = false := decide_eq_false hv1
      have hv2b : decide (vy ≥ lvl f M x0) = false := decide_eq_false hv2
      have hlj2 : ((j + 1 : Nat) : Int) < (cl.length : Int) := by omega
      clear hy hym hyF hyx hry hp hp0 hp1 hvy
      go_wp2
      refine Reg.by_order [(0, false), (1, false), (2, false), (3, false), (4, false), (5, false), (6, false), (7, true), (8, false)] [] (fun W => W.cell? ⟨w.heap.size, 1, none⟩ = some (.slice Am M.length cm) ∧ W.cell? ⟨w.heap.size + 1, 0, none⟩ = some (.slice (some adl) cl.length cC) ∧ W.cell? ⟨adl.block, adl.off + (j + 1), none⟩ = some (.int .i64 y)) (by kernel_rfl) (by kernel_rfl) (fun _ _ d _ _ h => by cases d <;> exact h) ⟨p1, p0, hx⟩ ?_
      iterate 7
        refine Reg.held_at (v := ?_) rfl rfl rfl ?_ ?_
        rotate_left
        · intro W hW
          obtain ⟨h1, h2, h3⟩ := hW
          go_simp
          first | done | rfl
        go_frame
      refine Reg.eff_on rfl rfl (fun K hK => ?_)
      go_simp
      refine (level_calls (w := wr.drew) (Kd.C_below HMR.out (HBw.out.trans ⟨rfl, rfl, rfl, Nat.le_refl _, fun _ _ => rfl⟩)) hcm hM' VD.out VV.out.back y HYs.out).mono ?_
      rw [← HVY.out]
      rintro e w' ⟨rfl, hd⟩
      obtain ⟨nd3, rfl⟩ := hd.out
      refine hK _ _ (fun _ => ⟨p1, p0, hx⟩) ?_
      clear hK hd
      refine Reg.held_at (v := ?_) rfl rfl rfl ?_ ?_
      rotate_left
      · intro W hW
        go_simp
        first | done | rfl
      go_frame
      refine Reg.nil_ ?_
      have HBS : Aside0 (backF f M (cr.take (j + 1)) = max (backF f M (cr.take j)) vy) := ⟨by rw [HTK.out]; simp [backF, List.foldl_append, HVY.out]⟩
      obtain ⟨bk, hbk⟩ : ∃ bk, bk = backF f M (cr.take j) := ⟨_, rfl⟩
      rw [← hbk] at HBS ⊢
      clear hbk
      have HBd : Aside0 (Below wA.heap.size wA (wr.drewN (1 + nd3))) := ⟨pw_below_drewN HBj.out (1 + nd3)⟩
      by_cases hgt : bk < vy
      · have hgtb : decide (vy > bk) = true := decide_eq_true hgt
        go_wp2
        go_roundw
        case rel => exact ⟨j + 1, by omega, by go_num, by rw [HBS.out]; exact congrArg (Value.int .i64) (by omega), HBd⟩
        case measure => simp [intOf]; omega
      · have hgtb : decide (vy > bk) = false := decide_eq_false hgt
        go_wp2
        go_roundw
        case rel => exact ⟨j + 1, by omega, by go_num, by rw [HBS.out]; exact congrArg (Value.int .i64) (by omega), HBd⟩
        case measure => simp [intOf]; omega
    · have hje : j = cr.length := by omega
      subst hje
      rw [List.take_length] at *
      have hbl : backF f M cr < lvl f M x0 := by
        have hp := VD.out.lvl_pos HX0.out
        have hp0 := GG.out.pos x0 GG.out.mem
        refine backF_lt cr 0 (by omega) (fun y hy => ?_)
        rw [HCR2.out] at hy
        obtain ⟨h1, h2⟩ := mem_restF.1 hy
        exact GG.out.one y h1 h2
      have hbe := HBACK.out
      subst hbe
      have l1' := pw_cell_below HBj.out HL1.out
      have hbb : decide (lvl f M x0 > backF f M cr) = true := decide_eq_true hbl
      go_wp2
      go_ret
      exact ⟨rfl, HBw.out.trans ⟨rfl, rfl, rfl, Nat.le_refl _, fun _ _ => rfl⟩⟩
end Go.Proofs.Ytjjlcnjhmkackaa.T
