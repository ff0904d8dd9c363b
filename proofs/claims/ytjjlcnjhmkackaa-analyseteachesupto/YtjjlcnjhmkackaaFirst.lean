/-
  What First of analyse answers. No condition but that clauses and marks lie as told.
-/
import Derived.Test.YtjjlcnjhmkackaaFirstP
import Derived.Deep.LoopGhost
set_option linter.unusedVariables false
set_option linter.unusedSimpArgs false
namespace Go.Proofs.Ytjjlcnjhmkackaa.T
open Go.RowKit Go.Proofs.YtjjlcnjhmkackaaW.PrintWords Go.Proofs.YtjjlcnjhmkackaaW.PrintLast Go.Proofs.YtjjlcnjhmkackaaW.PrintMore
open Go.Proofs.Ytjjlcnjhmkackaa.PA Go.MapII Go.Proofs

def FirstOut (B : Nat) (w' : World) : Option (List Int × Int × List Int) → Ending → Prop
  | none, e => ∃ code, code ≠ 0 ∧ e = .returned (.tuple #[.agg #[.slice none 0 0, .int .i64 0, .slice none 0 0], .int .i64 code])
  | some (c, b, n), e => ∃ vC vN, e = .returned (.tuple #[.agg #[vC, .int .i64 b, vN], .int .i64 0]) ∧ w'.ownsRow B 3 1 vC c.length (nums .i64 c) ∧ w'.ownsRow B 3 1 vN n.length (nums .i64 n) ∧ vC.ownBlock ≠ vN.ownBlock
theorem FirstOut.bad {B : Nat} {w' : World} {R : Option (List Int × Int × List Int)} (h : none = R) (code : Int) (hc : code ≠ 0) : FirstOut B w' R (.returned (.tuple #[.agg #[.slice none 0 0, .int .i64 0, .slice none 0 0], .int .i64 code])) := by
  subst h; exact ⟨code, hc, rfl⟩
theorem cells3 {W : World} {b : Nat} {v0 v1 v2 : Value} {t : TypeId} (h : W.heap[b]? = some (.cells #[v0, v1, v2] t (0, 0))) : W.cell? ⟨b, 0, none⟩ = some v0 ∧ W.cell? ⟨b, 1, none⟩ = some v1 ∧ W.cell? ⟨b, 2, none⟩ = some v2 ∧ ∀ j, W.frozen? ⟨b, j, none⟩ = false :=
  ⟨by simp [World.cell?, h], by simp [World.cell?, h], by simp [World.cell?, h], fun j => by simp [World.frozen?, h]⟩
theorem set3 {W : World} {b : Nat} {v0 v1 v2 : Value} {t : TypeId} (h : W.heap[b]? = some (.cells #[v0, v1, v2] t (0, 0))) (a0 a1 a2 : Value) : (((W.setCell ⟨b, 0, none⟩ a0).setCell ⟨b, 1, none⟩ a1).setCell ⟨b, 2, none⟩ a2).heap[b]? = some (.cells #[a0, a1, a2] t (0, 0)) := by
  simp [World.setCell, Array.getElem?_modify, h]
theorem below_set3 {B : Nat} {w W : World} {b : Nat} (h : Below B w W) (hb : B ≤ b) (a0 a1 a2 : Value) : Below B w (((W.setCell ⟨b, 0, none⟩ a0).setCell ⟨b, 1, none⟩ a1).setCell ⟨b, 2, none⟩ a2) := ((h.setCell hb _).setCell hb _).setCell hb _
theorem own_same {W W' : World} {B n : Nat} {e : TypeId} {sz : Nat} {v : Value} {xs : List Value} (h : W.ownsRow B e sz v n xs) (hs : ∀ k, v.ownBlock = some k → W'.heap[k]? = W.heap[k]?) : W'.ownsRow B e sz v n xs := by
  refine ⟨h.1, ?_⟩
  rcases h.2 with h0 | ⟨g, cap, cur, rfl, h1, h2, h3⟩
  · exact .inl h0
  · exact .inr ⟨g, cap, cur, rfl, h1, (hs g rfl).trans h2, h3⟩
theorem own_fr {W W' : World} {B n sb mb : Nat} {e : TypeId} {sz : Nat} {v cv : Value} {xs : List Value} (h : W.ownsRow B e sz v n xs) (hF : Fr W W' sb mb cv) (h1 : sb < B) (h2 : mb < B) (h3 : ∀ k, cv.ownBlock = some k → k < B) : W'.ownsRow B e sz v n xs :=
  own_same h fun k hk => by
    have hb := own_base h k hk
    exact hF.block k (own_lt h hk) (by omega) (by omega) (fun e => by have := h3 k e; omega)
theorem grownBy_set3 {W : World} {b : Nat} (a0 a1 a2 : Value) : W.grownBy (((W.setCell ⟨b, 0, none⟩ a0).setCell ⟨b, 1, none⟩ a1).setCell ⟨b, 2, none⟩ a2) (some b) :=
  World.grownBy.trans (World.grownBy.trans (grownBy_set W ⟨b, 0, none⟩ a0) (grownBy_set _ ⟨b, 1, none⟩ a1)) (grownBy_set _ ⟨b, 2, none⟩ a2)

set_option maxRecDepth 100000 in
set_option maxHeartbeats 8000000 in
/-- First -/
theorem first_calls {w : World} {Ac Am : Option Addr} {cc cm : Nat} {C : List (List Int)} {M : List S54} (hC : Kd.C (Kd.slice 3 (Kd.int .i64)) w Ac C.length C) (hcc : C.length ≤ cc) (hMr : Kd.C k54 w Am M.length M) (hfC : ∀ c ∈ C, ∀ x ∈ c, Fits x) (hfM : ∀ m ∈ M, Fits m.f0) (hM : M.length ≤ 1048576) (hbC : ∀ c ∈ C, c.length ≤ 1048576)
    (conflict : Int) (hcf : Fits conflict) (R : Option (List Int × Int × List Int)) (hR : (loadF C M 0 0 (fun _ => none)).bind (fun f => firstF f C M conflict) = R) :
    Calls Try.prog 4 #[.slice Ac C.length cc, .slice Am M.length cm, .int .i64 conflict] w fun e w' => Below w.heap.size w w' ∧ FirstOut w.heap.size w' R e := by
  have hM' : M.length ≤ 1099511627776 := by omega
  have HCR := Aside0.mk hC
  have HMR := Aside0.mk hMr
  have HFC := Aside0.mk hfC
  have HFM := Aside0.mk hfM
  have HBC := Aside0.mk hbC
  have hlenC : C.length ≤ 9223372036854775807 := hC.2.1
  clear hC hMr hfC hfM hbC
  cases hLd : loadF C M 0 0 (fun _ => none) with
  | none =>
    rw [hLd] at hR
    have HN : Aside0 (none = R) := ⟨hR⟩
    have HLd := Aside0.mk hLd
    clear hR hLd
    go_enter Try.func4, Try.ntmps4
    go_wp2_with (first
      | (go_at_call 11; refine (load_calls (Kd.C_below HCR.out (below_alloc (Below.refl _ _) _)) hcc (Kd.C_below HMR.out (below_alloc (Below.refl _ _) _)) HFC.out HFM.out hM').mono ?_; rw [HLd.out]; rintro e w1 ⟨hb1, rfl⟩; have hr6 := (hb1.block _ (by simp)).trans (heap_alloc_new w (.cells #[.slice none 0 0, .int .i64 0, .slice none 0 0] 29)); obtain ⟨r0, r1, r2, zr⟩ := cells3 hr6; have zr0 := zr 0; have zr1 := zr 1; have zr2 := zr 2; have HB1 := Aside0.mk hb1; have HR6 := Aside0.mk hr6; clear hb1 zr hr6))
    obtain ⟨q0, q1, q2, _⟩ := cells3 (set3 HR6.out (.slice none 0 0) (.int .i64 0) (.slice none 0 0))
    refine bodyPost_ret (v := .tuple #[.agg #[.slice none 0 0, .int .i64 0, .slice none 0 0], .int .i64 200]) ?_ rfl ⟨below_set3 ((below_alloc (Below.refl _ _) _).trans (HB1.out.mono (by simp))) (Nat.le_refl _) _ _ _, FirstOut.bad HN.out 200 (by decide)⟩
    simp [results, Try.results4, go_sem, q0, q1, q2]
  | some f =>
    rw [hLd] at hR
    replace hR : firstF f C M conflict = R := hR
    have HLd := Aside0.mk hLd
    obtain ⟨lv, hVI⟩ := loadF_VI HFM.out hLd
    have VV := Aside0.mk (hVI.vd HFC.out)
    have HP := Aside0.mk (hVI.places hM')
    clear hLd hVI lv
    unfold firstF at hR
    by_cases cn : conflict < 0
    · rw [if_pos cn] at hR
      have HN := Aside0.mk hR
      have cnb : decide (conflict < 0) = true := by simp [cn]
      clear hR
      go_enter Try.func4, Try.ntmps4
      go_wp2_with (first
        | (go_at_call 11; refine (load_calls (Kd.C_below HCR.out (below_alloc (Below.refl _ _) _)) hcc (Kd.C_below HMR.out (below_alloc (Below.refl _ _) _)) HFC.out HFM.out hM').mono ?_; rw [HLd.out]; rintro e w1 ⟨hb1, tb, pb, rfl, htb, hpb, t0, t1, t2, hpm⟩; have hr6 := (hb1.block _ (by simp)).trans (heap_alloc_new w (.cells #[.slice none 0 0, .int .i64 0, .slice none 0 0] 29)); obtain ⟨r0, r1, r2, zr⟩ := cells3 hr6; have zr0 := zr 0; have zr1 := zr 1; have zr2 := zr 2; have HB1 := Aside0.mk ((below_alloc (Below.refl w.heap.size w) (.cells #[.slice none 0 0, .int .i64 0, .slice none 0 0] 29)).trans (hb1.mono (by simp))); have HR6 := Aside0.mk hr6; have HPM := Aside0.mk hpm; have hz1 := hb1.size; simp only [World.size_alloc] at hz1 htb hpb; have TT : Aside0 (TR w1 tb pb M.length Ac cc Am cm C M f) := ⟨{ c0 := t0, c1 := t1, c2 := t2, hcc := hcc, rc := Kd.C_below HCR.out HB1.out, rm := Kd.C_below HMR.out HB1.out, pm := hpm, P := HP.out, fits := HFC.out, idx := fun x i h => ⟨(VV.out.rng x i h).1, (VV.out.rng x i h).2.1⟩, big := fun c hc => Nat.le_trans (HBC.out c hc) (by decide) }⟩; clear hb1 zr hr6 hpm))
      obtain ⟨q0, q1, q2, _⟩ := cells3 (set3 HR6.out (.slice none 0 0) (.int .i64 0) (.slice none 0 0))
      refine bodyPost_ret (v := .tuple #[.agg #[.slice none 0 0, .int .i64 0, .slice none 0 0], .int .i64 210]) ?_ rfl ⟨below_set3 HB1.out (Nat.le_refl _) _ _ _, FirstOut.bad HN.out 210 (by decide)⟩
      simp [results, Try.results4, go_sem, q0, q1, q2]
    · rw [if_neg cn] at hR
      by_cases cg : C.length ≤ conflict
      · rw [if_pos cg] at hR
        have HN := Aside0.mk hR
        clear hR
        go_enter Try.func4, Try.ntmps4
        go_wp2_with (first
          | (go_at_call 11; refine (load_calls (Kd.C_below HCR.out (below_alloc (Below.refl _ _) _)) hcc (Kd.C_below HMR.out (below_alloc (Below.refl _ _) _)) HFC.out HFM.out hM').mono ?_; rw [HLd.out]; rintro e w1 ⟨hb1, tb, pb, rfl, htb, hpb, t0, t1, t2, hpm⟩; have hr6 := (hb1.block _ (by simp)).trans (heap_alloc_new w (.cells #[.slice none 0 0, .int .i64 0, .slice none 0 0] 29)); obtain ⟨r0, r1, r2, zr⟩ := cells3 hr6; have zr0 := zr 0; have zr1 := zr 1; have zr2 := zr 2; have HB1 := Aside0.mk ((below_alloc (Below.refl w.heap.size w) (.cells #[.slice none 0 0, .int .i64 0, .slice none 0 0] 29)).trans (hb1.mono (by simp))); have HR6 := Aside0.mk hr6; have HPM := Aside0.mk hpm; have hz1 := hb1.size; simp only [World.size_alloc] at hz1 htb hpb; have TT : Aside0 (TR w1 tb pb M.length Ac cc Am cm C M f) := ⟨{ c0 := t0, c1 := t1, c2 := t2, hcc := hcc, rc := Kd.C_below HCR.out HB1.out, rm := Kd.C_below HMR.out HB1.out, pm := hpm, P := HP.out, fits := HFC.out, idx := fun x i h => ⟨(VV.out.rng x i h).1, (VV.out.rng x i h).2.1⟩, big := fun c hc => Nat.le_trans (HBC.out c hc) (by decide) }⟩; clear hb1 zr hr6 hpm))
        obtain ⟨q0, q1, q2, _⟩ := cells3 (set3 HR6.out (.slice none 0 0) (.int .i64 0) (.slice none 0 0))
        refine bodyPost_ret (v := .tuple #[.agg #[.slice none 0 0, .int .i64 0, .slice none 0 0], .int .i64 210]) ?_ rfl ⟨below_set3 HB1.out (Nat.le_refl _) _ _ _, FirstOut.bad HN.out 210 (by decide)⟩
        simp [results, Try.results4, go_sem, q0, q1, q2]
      · rw [if_neg cg] at hR
        obtain ⟨c, hcd⟩ : ∃ c, c = rd_L1 C conflict := ⟨_, rfl⟩
        have hc0 : 0 ≤ conflict := by omega
        have hc1 : conflict < C.length := by omega
        have HMC : Aside0 (c ∈ C) := ⟨by rw [hcd]; exact rd_L1_mem hc0 hc1⟩
        rw [← hcd] at hR
        have HCD := Aside0.mk hcd.symm
        have HRR := Aside0.mk hR
        have HFc : Aside0 (∀ x ∈ c, Fits x) := ⟨HFC.out c HMC.out⟩
        have hlc : c.length ≤ 1048576 := HBC.out c HMC.out
        have cnb : decide (conflict < 0) = false := by simp [cn]
        have cgb : decide (conflict ≥ (C.length : Int)) = false := by simp; omega
        clear hcd hR cn cg
        have hmk : ∀ W, (Instr.makeMap 44 none).run Try.prog W = .ok (.map (some W.heap.size)) (W.alloc (.map #[] 0)) := fun W => run_makeMap 44 W
        obtain ⟨adC, A0, cc0, eC, hcl0, hle, hcr⟩ := at_L1 HCR.out conflict hc0 hc1
        subst eC
        rw [HCD.out] at hcl0 hle hcr
        have HCL0 := Aside0.mk hcl0
        have HCRW := Aside0.mk hcr
        clear hcl0 hcr
        go_enter Try.func4, Try.ntmps4
        go_wp2_with (first
          | (go_at_call 11; refine (load_calls (Kd.C_below HCR.out (below_alloc (Below.refl _ _) _)) hcc (Kd.C_below HMR.out (below_alloc (Below.refl _ _) _)) HFC.out HFM.out hM').mono ?_; rw [HLd.out]; rintro e w1 ⟨hb1, tb, pb, rfl, htb, hpb, t0, t1, t2, hpm⟩; have hr6 := (hb1.block _ (by simp)).trans (heap_alloc_new w (.cells #[.slice none 0 0, .int .i64 0, .slice none 0 0] 29)); obtain ⟨r0, r1, r2, zr⟩ := cells3 hr6; have zr0 := zr 0; have zr1 := zr 1; have zr2 := zr 2; have HB1 := Aside0.mk ((below_alloc (Below.refl w.heap.size w) (.cells #[.slice none 0 0, .int .i64 0, .slice none 0 0] 29)).trans (hb1.mono (by simp))); have HR6 := Aside0.mk hr6; have HPM := Aside0.mk hpm; have hz1 := hb1.size; simp only [World.size_alloc] at hz1 htb hpb; have TT : Aside0 (TR w1 tb pb M.length (some adC) cc Am cm C M f) := ⟨{ c0 := t0, c1 := t1, c2 := t2, hcc := hcc, rc := Kd.C_below HCR.out HB1.out, rm := Kd.C_below HMR.out HB1.out, pm := hpm, P := HP.out, fits := HFC.out, idx := fun x i h => ⟨(VV.out.rng x i h).1, (VV.out.rng x i h).2.1⟩, big := fun c hc => Nat.le_trans (HBC.out c hc) (by decide) }⟩; have hcl := pw_cell_below HB1.out HCL0.out; have hcl2 : ((w1.alloc (.map #[] 0)).alloc (.cells #[.pointer (some ⟨tb, 0, none⟩), .map (some w1.heap.size), .slice none 0 0] 46)).cell? (adC.add conflict.toNat) = some (.slice A0 c.length cc0) := pw_cell_below (below_alloc (below_alloc (Below.refl _ _) _) _) hcl; clear hb1 zr hr6 hpm))
        clear hmk cnb cgb hcl hcl2
        have hS0 : SetAt w1 ((w1.alloc (.map #[] 0)).alloc (.cells #[.pointer (some ⟨tb, 0, none⟩), .map (some w1.heap.size), .slice none 0 0] 46)) (w1.heap.size + 1) w1.heap.size tb [] (.slice none 0 0) [] :=
          { hB := below_alloc (below_alloc (Below.refl _ _) _) _, sB := Nat.le_succ _, mB := Nat.le_refl _, s0 := by simp, s1 := by simp, s2 := by simp, fz := by simp, map := MapII.alloc (MapII.made w1 Try.prog 3 3) _, own := own_nil _ _ _ _, apart := by simp [Value.ownBlock] }
        obtain ⟨w2, hw2⟩ : ∃ w2, w2 = (w1.alloc (.map #[] 0)).alloc (.cells #[.pointer (some ⟨tb, 0, none⟩), .map (some w1.heap.size), .slice none 0 0] 46) := ⟨_, rfl⟩
        rw [← hw2] at hS0 ⊢
        have HS0 := Aside0.mk hS0
        clear hS0 hw2 r0 r1 r2 zr0 zr1 zr2 t0 t1 t2
        go_loopw [42] (fun i wr => ∃ (k : Nat), k ≤ c.length ∧ i = .int .i64 k ∧ Aside0 (SetAt w1 wr (w1.heap.size + 1) w1.heap.size tb (insL f [] (c.take k)) (.slice none 0 0) []) ∧ Aside0 (∀ x ∈ c.take k, isFalseB f x = true)) (fun i _ => c.length - (intOf i).toNat)
        case atStart => exact ⟨0, Nat.zero_le _, rfl, HS0, ⟨by simp⟩⟩
        case round =>
          obtain ⟨k, hk, rfl, HSk, HAk⟩ := hrel
          have TTk := Aside0.mk (TT.out.below HSk.out.hB)
          by_cases hlt : k < c.length
          · obtain ⟨ad0, e0, hx⟩ := Kd.at_int (Kd.C_below HCRW.out (HB1.out.trans (HSk.out.hB.mono (by omega)))) (k : Int) (by omega) (by omega)
            subst e0
            have HTK := Aside0.mk (take_rd hlt)
            obtain ⟨x, hxe⟩ : ∃ x, x = rd c (k : Int) := ⟨_, rfl⟩
            have hxm : x ∈ c := by rw [hxe]; exact rd_mem hlt
            have HXM := Aside0.mk hxm
            rw [← hxe] at hx HTK
            rw [Int.toNat_natCast] at hx
            clear hxe
            have hfx : Fits x := HFc.out x hxm
            have s1 := HSk.out.s1
            clear hxm
            by_cases hf : isFalseB f x = true
            · have HF1 := Aside0.mk hf
              clear hf
              have HBD : Aside0 ((insL f [] (c.take k)).length < maxLen) := ⟨by
                have h1 : (insL f [] (c.take k)).length ≤ M.length := (Fall.insL HP.out (f := f) (F := []) ⟨List.Pairwise.nil, by simp, by simp⟩ (fun y hy => isFalseB_some (HAk.out y hy)) (fun y hy => HFc.out y (List.mem_of_mem_take hy))).len VV.out
                unfold maxLen; omega⟩
              go_wp2_with (first
                | (go_at_call 12; refine (isFalse_calls tb pb M.length f x wr hfx TTk.out.c2 TTk.out.pm).mono ?_; rintro e w' ⟨rfl, hd⟩; obtain ⟨nd2, rfl⟩ := hd.out; clear hd; rw [HF1.out])
                | (at_mapUpdate; refine wp_update _ rfl (.tmp 54) (.tmp 55) _ 44 rfl 3 3 Try.underlying44 Try.underlying3 Try.underlying3 w1.heap.size _ _ rfl (MapII.drewN HSk.out.map nd2) HBD.out x 1 rfl rfl hfx (by decide) ?_; intro w3 ho3 hg3 hs3; have HO3 := Aside0.mk ho3; have HG3 : Aside0 (wr.grownBy w3 (some w1.heap.size)) := ⟨⟨hg3.os, hg3.tape, hg3.output, hg3.size, hg3.block⟩⟩; clear ho3 hg3 hs3))
              go_roundw
              case rel =>
                refine ⟨k + 1, by omega, by go_num, ⟨by rw [HTK.out, insL_snoc]; exact HSk.out.turn HG3.out (by rw [setF_ins]; exact HO3.out)⟩, ⟨fun y hy => ?_⟩⟩
                rw [HTK.out] at hy
                rcases List.mem_append.1 hy with hy | hy
                · exact HAk.out y hy
                · have : y = x := by simpa using hy
                  subst this; exact HF1.out
              case measure => simp [intOf]; omega
            · have hff : isFalseB f x = false := by simpa using hf
              have HF1 := Aside0.mk hff
              have hRR := HRR.out
              rw [if_pos (by
                cases e : c.all (isFalseB f) with
                | false => rfl
                | true => have := List.all_eq_true.1 e x HXM.out; rw [hff] at this; cases this)] at hRR
              have HN := Aside0.mk hRR
              have hrk : wr.heap[w.heap.size]? = some (.cells #[.slice none 0 0, .int .i64 0, .slice none 0 0] 29 (0, 0)) := (HSk.out.hB.block _ (by omega)).trans HR6.out
              obtain ⟨r0, r1, r2, zr⟩ := cells3 hrk
              have zr0 := zr 0
              have zr1 := zr 1
              have zr2 := zr 2
              have HRK := Aside0.mk hrk
              have HBK : Aside0 (Below w.heap.size w wr) := ⟨HB1.out.trans (HSk.out.hB.mono (by omega))⟩
              clear hf hff hRR hrk zr
              go_wp2_with (first
                | (go_at_call 12; refine (isFalse_calls tb pb M.length f x wr hfx TTk.out.c2 TTk.out.pm).mono ?_; rintro e w' ⟨rfl, hd⟩; obtain ⟨nd2, rfl⟩ := hd.out; clear hd; rw [HF1.out]))
              have HRKd : Aside0 ((wr.drewN nd2).heap[w.heap.size]? = some (.cells #[.slice none 0 0, .int .i64 0, .slice none 0 0] 29 (0, 0))) := ⟨HRK.out⟩
              have HBKd : Aside0 (Below w.heap.size w (wr.drewN nd2)) := ⟨pw_below_drewN HBK.out nd2⟩
              obtain ⟨q0, q1, q2, _⟩ := cells3 (set3 HRKd.out (.slice none 0 0) (.int .i64 0) (.slice none 0 0))
              refine bodyPost_ret (v := .tuple #[.agg #[.slice none 0 0, .int .i64 0, .slice none 0 0], .int .i64 210]) ?_ rfl ⟨below_set3 HBKd.out (Nat.le_refl _) _ _ _, FirstOut.bad HN.out 210 (by decide)⟩
              simp [results, Try.results4, go_sem, q0, q1, q2]
          · have hRR := HRR.out
            have HS1 := HSk.out
            rw [List.take_of_length_le (by omega)] at HS1
            have hAll : ∀ x ∈ c, isFalseB f x = true := by have := HAk.out; rwa [List.take_of_length_le (by omega)] at this
            rw [if_neg (by rw [List.all_eq_true.2 hAll]; decide)] at hRR
            have hF0 : Fall f (insL f [] c) := Fall.insL HP.out ⟨List.Pairwise.nil, by simp, by simp⟩ (fun y hy => isFalseB_some (hAll y hy)) HFc.out
            have HF0 := Aside0.mk hF0
            obtain ⟨F0, hF0e⟩ : ∃ F0, F0 = insL f [] c := ⟨_, rfl⟩
            rw [← hF0e] at HF0 hRR HS1
            have HSS := Aside0.mk HS1
            have HR2 := Aside0.mk hRR
            clear hRR HS1 hAll hF0 hF0e HRR HAk HSk
            have hlF : F0.length ≤ M.length := HF0.out.len VV.out
            have TT2 := Aside0.mk (TT.out.below HSS.out.hB)
            have hszr : w1.heap.size ≤ wr.heap.size := HSS.out.hB.size
            have HRK : Aside0 (wr.heap[w.heap.size]? = some (.cells #[.slice none 0 0, .int .i64 0, .slice none 0 0] 29 (0, 0))) := ⟨(HSS.out.hB.block _ (by omega)).trans HR6.out⟩
            have HBK : Aside0 (Below w.heap.size w wr) := ⟨HB1.out.trans (HSS.out.hB.mono (by omega))⟩
            have hsbr : w1.heap.size + 1 < wr.heap.size := World.block_lt_of_cell? _ _ HSS.out.s0
            have hmbr : w1.heap.size < wr.heap.size := MapII.lt HSS.out.map
            by_cases cm0 : mostF f M F0 = 0
            · have hN := HR2.out
              rw [if_pos cm0] at hN
              have HN := Aside0.mk hN
              have CM := Aside0.mk cm0
              clear hN cm0
              go_wp2_with (first
                | (go_at_call 13; refine (top_calls VV.out TT.out HSS.out HF0.out hM').mono ?_; rw [CM.out]; rintro e w4 ⟨v4, rfl, ho4, hb4⟩; obtain ⟨A4, c4, rfl⟩ := own_slice ho4; have hrk : w4.heap[w.heap.size]? = some (.cells #[.slice none 0 0, .int .i64 0, .slice none 0 0] 29 (0, 0)) := (hb4.block _ (by omega)).trans HRK.out; obtain ⟨r0, r1, r2, zr⟩ := cells3 hrk; have zr0 := zr 0; have zr1 := zr 1; have zr2 := zr 2; have HRK4 := Aside0.mk hrk; have HBK4 : Aside0 (Below w.heap.size w w4) := ⟨HBK.out.trans (hb4.mono (by omega))⟩; clear hrk zr ho4 hb4))
              obtain ⟨q0, q1, q2, _⟩ := cells3 (set3 HRK4.out (.slice none 0 0) (.int .i64 0) (.slice none 0 0))
              refine bodyPost_ret (v := .tuple #[.agg #[.slice none 0 0, .int .i64 0, .slice none 0 0], .int .i64 210]) ?_ rfl ⟨below_set3 HBK4.out (Nat.le_refl _) _ _ _, FirstOut.bad HN.out 210 (by decide)⟩
              simp [results, Try.results4, go_sem, q0, q1, q2]
            · have hN := HR2.out
              rw [if_neg cm0] at hN
              have HN := Aside0.mk hN
              have cmb : (mostF f M F0 == 0) = false := by simp [cm0]
              have HNE : Aside0 (F0 ≠ []) := ⟨fun e => cm0 (by rw [e]; rfl)⟩
              clear hN HR2 cm0
              obtain ⟨G, hG⟩ : ∃ G, G = firstG f C M M.length F0 := ⟨_, rfl⟩
              obtain ⟨gs1, gs2, gs3, gs4⟩ := VV.out.firstG_spec HP.out M.length HF0.out HNE.out (topP_le VV.out HF0.out)
              have hGl : (firstG f C M M.length F0).2.length ≤ M.length := firstG_len M.length
              rw [← hG] at gs1 gs2 gs3 gs4 hGl
              have HN1 := HN.out
              rw [← hG] at HN1
              have HN2 := Aside0.mk HN1
              have GS1 := Aside0.mk gs1
              have GS2 := Aside0.mk gs2
              have GS4 := Aside0.mk gs4
              have HGG := Aside0.mk hG
              clear HN HN1 gs1 gs2 gs3 gs4 hG
              go_wp2_with (first
                | (go_at_call 13; refine (top_calls VV.out TT.out HSS.out HF0.out hM').mono ?_; rintro e w4 ⟨v4, rfl, ho4, hb4⟩; obtain ⟨A4, c4, rfl⟩ := own_slice ho4; have HO4 := Aside0.mk ho4; have HB4 := Aside0.mk hb4; clear ho4 hb4))
              clear cmb
              have hz4 := HB4.out.size
              have HS4 := Aside0.mk (HSS.out.below HB4.out)
              go_loopg [13] M.length (fun gk v wr => ∃ (F : List Int) (ch : List Int) (cv : Value) (b0 : Nat), Aside0 (SetAt w1 wr (w1.heap.size + 1) w1.heap.size tb F cv ch) ∧ Aside0 (Fall f F) ∧ Aside0 (F ≠ []) ∧ Aside0 (topP f F ≤ gk) ∧ Aside0 (G.1 = (firstG f C M gk F).1 ∧ G.2 = ch ++ (firstG f C M gk F).2) ∧ Aside0 (wr.ownsRow b0 3 1 v (topF f M F).length (nums .i64 (topF f M F))) ∧ w1.heap.size + 1 < b0 ∧ Aside0 (∀ k, cv.ownBlock = some k → k < b0))
              case atStart => exact ⟨F0, [], _, _, HS4, HF0, HNE, ⟨topP_le VV.out HF0.out⟩, ⟨by rw [HGG.out], by rw [HGG.out]; rfl⟩, HO4, hsbr, ⟨fun k hk => by simp [Value.ownBlock] at hk⟩⟩
              case round =>
                obtain ⟨F, ch, cv, b0, HSk, HFk, HNk, HTk, HGk, HOk, hb0, HCVk⟩ := hrel
                obtain ⟨A5, c5, rfl⟩ := own_slice HOk.out
                have hg2 : G.2.length ≤ M.length := hGl
                have hchl : ch.length ≤ M.length := by
                  have h := congrArg List.length HGk.out.2
                  rw [List.length_append] at h
                  omega
                by_cases hlt : 1 < (topF f M F).length
                · obtain ⟨x, y, t, hT⟩ : ∃ x y t, topF f M F = x :: y :: t := by
                    cases e : topF f M F with
                    | nil => rw [e] at hlt; simp at hlt
                    | cons x r =>
                      cases r with
                      | nil => rw [e] at hlt; simp at hlt
                      | cons y t => exact ⟨x, y, t, rfl⟩
                  obtain ⟨f1, f2, f3, f4, f5, f6, f7, f8⟩ := VV.out.first_step HP.out HFk.out hT
                  have htk := HTk.out
                  obtain ⟨g, rfl⟩ : ∃ g, gk = g + 1 := ⟨gk - 1, by omega⟩
                  have hGG := HGk.out
                  rw [firstG_two hT] at hGG
                  obtain ⟨adl, eAl, hx0⟩ := (own_reads' HOk.out).at_ 0 (Int.le_refl _) (by omega)
                  subst eAl
                  have hrx : rd (topF f M F) 0 = x := by rw [hT]; rfl
                  rw [hrx] at hx0
                  have hx1 : wr.cell? adl = some (.int .i64 x) := by have h := hx0; simpa [Addr.add] using h
                  have HT := Aside0.mk hT
                  have HF4 := Aside0.mk f4
                  have HF5 := Aside0.mk f5
                  have HF7 := Aside0.mk f7
                  have HF3 := Aside0.mk f3
                  have HF2 := Aside0.mk f2
                  have HGG2 := Aside0.mk hGG
                  have hfx : Fits x := HFk.out.fits x f1
                  have hgtb : decide (((topF f M F).length : Int) > 1) = true := by simp; omega
                  obtain ⟨nT, hnT⟩ : ∃ nT, nT = (topF f M F).length := ⟨_, rfl⟩
                  clear f1 f2 f3 f4 f5 f6 f7 f8 hT htk hGG hrx hx0
                  go_wp2_with (first
                    | (go_at_call 14; refine (resolve_at VV.out TT.out HSk.out HFk.out hM' (by omega) x hfx HF2.out HF3.out).mono ?_; rintro e w5 ⟨rfl, cv5, hS5, hR5, hL5⟩; have HS5 := Aside0.mk hS5; have HR5 := Aside0.mk hR5; have HL5 := Aside0.mk hL5; clear hS5 hR5 hL5)
                    | (go_at_call 13; refine (top_calls VV.out TT.out HS5.out HF4.out hM').mono ?_; rintro e w6 ⟨v6, rfl, ho6, hb6⟩; have HO6 := Aside0.mk ho6; have HB6 := Aside0.mk hb6; clear ho6 hb6))
                  go_roundg g
                  case measure => omega
                  case rel =>
                    have hs5 : w1.heap.size + 1 < w5.heap.size := World.block_lt_of_cell? _ _ HS5.out.s0
                    exact ⟨_, _, _, _, ⟨HS5.out.below HB6.out⟩, HF4, HF7, ⟨by have h1 := HTk.out; have h2 := HF5.out; omega⟩, ⟨HGG2.out.1, by rw [HGG2.out.2]; simp⟩, HO6, hs5, ⟨fun k hk => own_lt HS5.out.own hk⟩⟩
                · have hGG := HGk.out
                  rw [firstG_one (by omega)] at hGG
                  have HGG2 := Aside0.mk hGG
                  have hg4 := GS4.out
                  have hG1 : G.1 = F := hGG.1
                  have hG2 : G.2 = ch := by rw [hGG.2]; simp
                  rw [hG1] at hg4
                  obtain ⟨x, hT⟩ : ∃ x, topF f M F = [x] := by
                    cases e : topF f M F with
                    | nil => rw [e] at hg4; simp at hg4
                    | cons x r =>
                      cases r with
                      | nil => exact ⟨x, rfl⟩
                      | cons y t => rw [e] at hg4; simp at hg4
                  have hN := HN2.out
                  rw [hG1, hG2, hT] at hN
                  simp only [List.headD_cons] at hN
                  have HN := Aside0.mk hN
                  have hxF : x ∈ F := by
                    have : x ∈ topF f M F := by rw [hT]; simp
                    exact (List.mem_filter.1 this).1
                  have hfx : Fits x := HFk.out.fits x hxF
                  have HX := Aside0.mk hxF
                  have hO := HOk.out
                  rw [hT] at hO hlt ⊢
                  have HO := Aside0.mk hO
                  have HFC2 : Aside0 (Fall f (cleanG f C M M.length F).1) := ⟨VV.out.cleanG_fall HP.out _ HFk.out⟩
                  have hCl : (cleanG f C M M.length F).2.length ≤ M.length := cleanG_len M.length
                  clear hGG hg4 hG1 hG2 hN hxF hO hT HOk
                  obtain ⟨S, hS⟩ : ∃ S, S = cleanG f C M M.length F := ⟨_, rfl⟩
                  rw [← hS] at HFC2 hCl HN
                  have HSE := Aside0.mk hS
                  clear hS
                  go_wp2_with (first
                    | (go_at_call 15; refine (clean_calls VV.out TT.out HSk.out HFk.out hM' (by omega)).mono ?_; rw [← HSE.out]; rintro e w5 ⟨rfl, cv5, hS5, hR5, hL5⟩; have HO5 := Aside0.mk (own_fr HO.out hR5 (by omega) (by omega) HCVk.out); obtain ⟨adl, eAl, hx0⟩ := (own_reads' HO5.out).at_ 0 (Int.le_refl _) (by simp); subst eAl; have hx1 : w5.cell? adl = some (.int .i64 x) := (by simpa [Addr.add, rd] using hx0); have HS5 := Aside0.mk hS5; clear hS5 hR5 hL5 hx0)
                    | (go_at_call 16; refine (told_calls VV.out TT.out (HS5.out.below (below_alloc (Below.refl _ _) _)) HFC2.out hM' (by simp; omega) x hfx (some ⟨w5.heap.size, 0, none⟩) 1 [conflict] (own_reads' (own_lit w5 0 3 .i64 [conflict] (Nat.zero_le _) (by simp))) (by simp)).mono ?_; rintro e w7 ⟨vC, vN, rfl, hoC, hoN, hap, hb7⟩; obtain ⟨AC, cC, rfl⟩ := own_slice hoC; obtain ⟨AN, cN, rfl⟩ := own_slice hoN; have hz5 : w1.heap.size + 1 < w5.heap.size := World.block_lt_of_cell? _ _ HS5.out.s0; have hb57 : Below w1.heap.size w1 w7 := (below_alloc HS5.out.hB (.cells #[.int .i64 conflict] 3)).trans (hb7.mono (by simp; omega)); have hrk : w7.heap[w.heap.size]? = some (.cells #[.slice none 0 0, .int .i64 0, .slice none 0 0] 29 (0, 0)) := (hb57.block _ (by omega)).trans HR6.out; obtain ⟨r0, r1, r2, zr⟩ := cells3 hrk; have zr0 := zr 0; have zr1 := zr 1; have zr2 := zr 2; have HRK7 := Aside0.mk hrk; have HB7 : Aside0 (Below w.heap.size w w7) := ⟨HB1.out.trans (hb57.mono (by omega))⟩; have HOC := Aside0.mk hoC; have HON := Aside0.mk hoN; have HAP := Aside0.mk hap; clear hoC hoN hap hb7 hb57 hrk zr))
                  have hlN : ([conflict] ++ (ch ++ S.2)).length = ch.length + S.2.length + 1 := by simp
                  have hlN2 : (conflict :: (ch ++ S.2)).length = ch.length + S.2.length + 1 := by simp
                  have hON := HON.out
                  rw [hlN] at hON
                  have hap := HAP.out
                  rw [hlN] at hap
                  obtain ⟨q0, q1, q2, _⟩ := cells3 (set3 HRK7.out (.slice AC ((restF x S.1).length + 1) cC) (.int .i64 (backF f M (restF x S.1))) (.slice AN (ch.length + S.2.length + 1) cN))
                  have hbC := own_base HOC.out
                  have hbN := own_base hON
                  simp only [World.size_alloc] at hbC hbN
                  refine bodyPost_ret (v := .tuple #[.agg #[.slice AC ((restF x S.1).length + 1) cC, .int .i64 (backF f M (restF x S.1)), .slice AN (ch.length + S.2.length + 1) cN], .int .i64 0]) ?_ rfl ⟨?_, ?_⟩
                  · simp [results, Try.results4, go_sem, q0, q1, q2]
                  · have h := below_set3 HB7.out (Nat.le_refl _) (.slice AC ((restF x S.1).length + 1) cC) (.int .i64 (backF f M (restF x S.1))) (.slice AN (ch.length + S.2.length + 1) cN)
                    simpa using h
                  · rw [← HN.out]
                    refine ⟨_, _, rfl, ?_, ?_, hap⟩
                    · have h := (own_mono HOC.out (b' := w.heap.size) (by simp; omega)).kept (grownBy_set3 (b := w.heap.size) (.slice AC ((restF x S.1).length + 1) cC) (.int .i64 (backF f M (restF x S.1))) (.slice AN (ch.length + S.2.length + 1) cN)) (.inr fun e => by have := hbC _ e; omega)
                      simpa using h
                    · have h := (own_mono hON (b' := w.heap.size) (by simp; omega)).kept (grownBy_set3 (b := w.heap.size) (.slice AC ((restF x S.1).length + 1) cC) (.int .i64 (backF f M (restF x S.1))) (.slice AN (ch.length + S.2.length + 1) cN)) (.inr fun e => by have := hbN _ e; omega)
                      simpa using h
end Go.Proofs.Ytjjlcnjhmkackaa.T
