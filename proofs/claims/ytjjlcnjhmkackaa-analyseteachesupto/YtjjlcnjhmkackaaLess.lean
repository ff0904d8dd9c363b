/-
  What Less of analyse answers to what First teaches. No condition but that clauses, marks and what was learnt lie as told.
-/
import Derived.Test.YtjjlcnjhmkackaaFirst
set_option linter.unusedVariables false
set_option linter.unusedSimpArgs false
namespace Go.Proofs.Ytjjlcnjhmkackaa.T
open Go.RowKit Go.Proofs.YtjjlcnjhmkackaaW.PrintWords Go.Proofs.YtjjlcnjhmkackaaW.PrintLast Go.Proofs.YtjjlcnjhmkackaaW.PrintMore
open Go.Proofs.Ytjjlcnjhmkackaa.PA Go.MapII Go.Proofs

/-- the loop of Less -/
def lessG (f : Int → Option Int) (C : List (List Int)) (M : List S54) (x0 : Int) : List Int → List Int → List Int × List Int
  | [], F => (F, [])
  | y :: r, F => if y ≠ x0 ∧ needB f C M F (Mk f M y) = true then
      ((lessG f C M x0 r (cleanG f C M M.length (resF f C M F y)).1).1, (Mk f M y).f2 :: ((cleanG f C M M.length (resF f C M F y)).2 ++ (lessG f C M x0 r (cleanG f C M M.length (resF f C M F y)).1).2))
    else lessG f C M x0 r F
theorem lessG_cons (f : Int → Option Int) (C : List (List Int)) (M : List S54) (x0 y : Int) (r F : List Int) : lessG f C M x0 (y :: r) F = if y ≠ x0 ∧ needB f C M F (Mk f M y) = true then
      ((lessG f C M x0 r (cleanG f C M M.length (resF f C M F y)).1).1, (Mk f M y).f2 :: ((cleanG f C M M.length (resF f C M F y)).2 ++ (lessG f C M x0 r (cleanG f C M M.length (resF f C M F y)).1).2))
    else lessG f C M x0 r F := rfl
theorem lessG_len {f : Int → Option Int} {C : List (List Int)} {M : List S54} {x0 : Int} : ∀ (r F : List Int), (lessG f C M x0 r F).2.length ≤ r.length * (M.length + 1)
  | [], F => by simp [lessG]
  | y :: r, F => by
    rw [lessG_cons]
    have h1 := cleanG_len (f := f) (C := C) (M := M) M.length (F := resF f C M F y)
    have e : (r.length + 1) * (M.length + 1) = r.length * (M.length + 1) + (M.length + 1) := Nat.succ_mul _ _
    split
    · have h2 := lessG_len (f := f) (C := C) (M := M) (x0 := x0) r (cleanG f C M M.length (resF f C M F y)).1
      simp only [List.length_cons, List.length_append]
      omega
    · have h2 := lessG_len (f := f) (C := C) (M := M) (x0 := x0) r F
      simp only [List.length_cons]
      omega
def lessF (f : Int → Option Int) (C : List (List Int)) (M : List S54) (x0 : Int) (cl ch : List Int) : List Int × Int × List Int :=
  let F0 := insL f [] cl
  let r := lessG f C M x0 F0 F0
  (x0 :: restF x0 r.1, backF f M (restF x0 r.1), ch ++ r.2)
theorem Vd.need_pre {f : Int → Option Int} {C : List (List Int)} {M : List S54} (V : Vd f C M) {y : Int} (hy : (f (neg y)).isSome = true) : (Mk f M y).f2 < C.length ∧ (0 ≤ (Mk f M y).f2 → ∀ l ∈ rd_L1 C (Mk f M y).f2, l ≠ (Mk f M y).f0 → (f (neg l)).isSome = true) := by
  by_cases e : (Mk f M y).f2 = -1
  · exact ⟨by omega, fun h => by omega⟩
  · obtain ⟨h1, h2, h3, h4⟩ := V.reason hy e
    exact ⟨h2, fun _ l hl hne => (h4 l hl hne).1⟩
theorem needB_ne {f : Int → Option Int} {C : List (List Int)} {M : List S54} {F : List Int} {q : S54} (h : needB f C M F q = true) : q.f2 ≠ -1 := by
  unfold needB at h
  intro e
  rw [if_pos (by omega)] at h
  cases h
theorem own_fr2 {W W' : World} {B n sb mb : Nat} {e : TypeId} {sz : Nat} {v cv : Value} {xs : List Value} (h : W.ownsRow B e sz v n xs) (hF : Fr W W' sb mb cv) (h1 : sb < B) (h2 : mb < B) (h3 : ∀ k, cv.ownBlock = some k → v.ownBlock ≠ some k) : W'.ownsRow B e sz v n xs :=
  own_same h fun k hk => by
    have hb := own_base h k hk
    exact hF.block k (own_lt h hk) (by omega) (by omega) (fun e => h3 k e hk)
theorem later_ne {W W' : World} {B n : Nat} {e : TypeId} {sz : Nat} {v cv cv' : Value} {xs : List Value} (h : W.ownsRow B e sz v n xs) (hl : Later W cv cv') (h3 : ∀ k, cv.ownBlock = some k → v.ownBlock ≠ some k) : ∀ k, cv'.ownBlock = some k → v.ownBlock ≠ some k := by
  intro k hk
  rcases hl with e | ⟨b, e, hb⟩
  · exact h3 k (by rw [← e]; exact hk)
  · intro hv
    have := own_lt h hv
    rw [e] at hk
    injection hk with hk
    omega

set_option maxRecDepth 100000 in
set_option maxHeartbeats 8000000 in
/-- Less -/
theorem less_calls {w : World} {Ac Am AC AN : Option Addr} {cc cm cC cN : Nat} {C : List (List Int)} {M : List S54} (hC : Kd.C (Kd.slice 3 (Kd.int .i64)) w Ac C.length C) (hcc : C.length ≤ cc) (hMr : Kd.C k54 w Am M.length M) (hfC : ∀ c ∈ C, ∀ x ∈ c, Fits x) (hfM : ∀ m ∈ M, Fits m.f0) (hM : M.length ≤ 1048576) (hbC : ∀ c ∈ C, c.length ≤ 1048576)
    (f : Int → Option Int) (hLd : loadF C M 0 0 (fun _ => none) = some f) (x0 back0 : Int) (cr ch0 : List Int) (hCl : ReadsInt w .i64 AC (x0 :: cr).length (x0 :: cr)) (hCh : ReadsInt w .i64 AN ch0.length ch0) (hch0 : ch0.length ≤ 4194304)
    (hfx : ∀ y ∈ x0 :: cr, Fits y) (hAll : ∀ y ∈ x0 :: cr, isFalseB f y = true) (hNd : (x0 :: cr).Nodup) (hL0 : ∀ y ∈ x0 :: cr, lvl f M y ≠ 0) (hLx : ∀ y ∈ cr, lvl f M y < lvl f M x0) :
    Calls Try.prog 8 #[.slice Ac C.length cc, .slice Am M.length cm, .agg #[.slice AC (x0 :: cr).length cC, .int .i64 back0, .slice AN ch0.length cN]] w fun e w' => Below w.heap.size w w' ∧ FirstOut w.heap.size w' (some (lessF f C M x0 (x0 :: cr) ch0)) e := by
  have hM' : M.length ≤ 1099511627776 := by omega
  have HCR := Aside0.mk hC
  have HMR := Aside0.mk hMr
  have HFC := Aside0.mk hfC
  have HFM := Aside0.mk hfM
  have HBC := Aside0.mk hbC
  have HCL := Aside0.mk hCl
  have HCH := Aside0.mk hCh
  have HFX := Aside0.mk hfx
  have HAL := Aside0.mk hAll
  have HND := Aside0.mk hNd
  have HL0 := Aside0.mk hL0
  have HLX := Aside0.mk hLx
  have HLd := Aside0.mk hLd
  have hlenC : C.length ≤ 9223372036854775807 := hC.2.1
  obtain ⟨lv, hVI⟩ := loadF_VI hfM hLd
  have VV := Aside0.mk (hVI.vd hfC)
  have HP := Aside0.mk (hVI.places hM')
  obtain ⟨cl, hcl⟩ : ∃ cl, cl = x0 :: cr := ⟨_, rfl⟩
  have HCLE := Aside0.mk hcl
  rw [← hcl] at HCL HFX HAL HND HL0 ⊢
  have hcl1 : 0 < cl.length := by rw [hcl]; simp
  have hlc : cl.length ≤ M.length := by
    have hF : Fall f (insL f [] cl) := Fall.insL HP.out ⟨List.Pairwise.nil, by simp, by simp⟩ (fun y hy => isFalseB_some (HAL.out y hy)) HFX.out
    refine Nat.le_trans (HND.out.length_le_of_subset fun z hz => ?_) (hF.len VV.out)
    exact mem_insL.2 (.inr hz)
  clear hC hMr hfC hfM hbC hCl hCh hfx hAll hNd hL0 hLx hLd hVI lv hcl
  have hmk : ∀ W, (Instr.makeMap 44 none).run Try.prog W = .ok (.map (some W.heap.size)) (W.alloc (.map #[] 0)) := fun W => run_makeMap 44 W
  obtain ⟨wA, hwA⟩ : ∃ wA, wA = (w.alloc (.cells #[.slice AC cl.length cC, .int .i64 back0, .slice AN ch0.length cN] 29)).alloc (.cells #[.slice none 0 0, .int .i64 0, .slice none 0 0] 29) := ⟨_, rfl⟩
  have hbA : Below w.heap.size w wA := by rw [hwA]; exact below_alloc (below_alloc (Below.refl _ _) _) _
  have hzA : wA.heap.size = w.heap.size + 2 := by rw [hwA]; simp
  have hb5 : wA.heap[w.heap.size]? = some (.cells #[.slice AC cl.length cC, .int .i64 back0, .slice AN ch0.length cN] 29 (0, 0)) := by
    rw [hwA]
    have h := heap_alloc_new w (.cells #[.slice AC cl.length cC, .int .i64 back0, .slice AN ch0.length cN] 29)
    exact (Below.heap_alloc _ _ _ (by simp)).trans h
  have hb6 : wA.heap[w.heap.size + 1]? = some (.cells #[.slice none 0 0, .int .i64 0, .slice none 0 0] 29 (0, 0)) := by
    rw [hwA]
    have h := heap_alloc_new (w.alloc (.cells #[.slice AC cl.length cC, .int .i64 back0, .slice AN ch0.length cN] 29)) (.cells #[.slice none 0 0, .int .i64 0, .slice none 0 0] 29)
    simpa using h
  have HWA := Aside0.mk hwA
  have HBA := Aside0.mk hbA
  have HB5 := Aside0.mk hb5
  have HB6 := Aside0.mk hb6
  clear hwA hbA hb5 hb6
  have hne0 : ((cl.length : Int) == 0) = false := beq_eq_false_iff_ne.2 (by omega)
  go_enter Try.func8, Try.ntmps8
  go_wp2_with (first
    | (go_at_call 11; rw [← HWA.out]; refine (load_calls (Kd.C_below HCR.out HBA.out) hcc (Kd.C_below HMR.out HBA.out) HFC.out HFM.out hM').mono ?_; rw [HLd.out]; rintro e w1 ⟨hb1, tb, pb, rfl, htb, hpb, t0, t1, t2, hpm⟩; have HB1 := Aside0.mk (HBA.out.trans (hb1.mono (by omega))); have HB51 : Aside0 (w1.heap[w.heap.size]? = some (.cells #[.slice AC cl.length cC, .int .i64 back0, .slice AN ch0.length cN] 29 (0, 0))) := ⟨(hb1.block _ (by omega)).trans HB5.out⟩; have HB61 : Aside0 (w1.heap[w.heap.size + 1]? = some (.cells #[.slice none 0 0, .int .i64 0, .slice none 0 0] 29 (0, 0))) := ⟨(hb1.block _ (by omega)).trans HB6.out⟩; obtain ⟨l0, l1, l2, _⟩ := cells3 HB51.out; have l0' := pw_cell_below (below_alloc (below_alloc (Below.refl w1.heap.size w1) (.map #[] 0)) (.cells #[.pointer (some ⟨tb, 0, none⟩), .map (some w1.heap.size), .slice none 0 0] 46)) l0; have hz1 := hb1.size; have HPM := Aside0.mk hpm; have TT : Aside0 (TR w1 tb pb M.length Ac cc Am cm C M f) := ⟨{ c0 := t0, c1 := t1, c2 := t2, hcc := hcc, rc := Kd.C_below HCR.out HB1.out, rm := Kd.C_below HMR.out HB1.out, pm := hpm, P := HP.out, fits := HFC.out, idx := fun x i h => ⟨(VV.out.rng x i h).1, (VV.out.rng x i h).2.1⟩, big := fun c hc => Nat.le_trans (HBC.out c hc) (by decide) }⟩; clear hb1 hpm))
  clear hmk hne0 l0 l1 l2 l0'
  have hS0 : SetAt w1 ((w1.alloc (.map #[] 0)).alloc (.cells #[.pointer (some ⟨tb, 0, none⟩), .map (some w1.heap.size), .slice none 0 0] 46)) (w1.heap.size + 1) w1.heap.size tb [] (.slice none 0 0) [] :=
    { hB := below_alloc (below_alloc (Below.refl _ _) _) _, sB := Nat.le_succ _, mB := Nat.le_refl _, s0 := by simp, s1 := by simp, s2 := by simp, fz := by simp, map := MapII.alloc (MapII.made w1 Try.prog 3 3) _, own := own_nil _ _ _ _, apart := by simp [Value.ownBlock] }
  obtain ⟨w2, hw2⟩ : ∃ w2, w2 = (w1.alloc (.map #[] 0)).alloc (.cells #[.pointer (some ⟨tb, 0, none⟩), .map (some w1.heap.size), .slice none 0 0] 46) := ⟨_, rfl⟩
  rw [← hw2] at hS0 ⊢
  have HS0 := Aside0.mk hS0
  clear hS0 hw2 t0 t1 t2
  go_loopw [38] (fun i wr => ∃ (k : Nat), k ≤ cl.length ∧ i = .int .i64 k ∧ Aside0 (SetAt w1 wr (w1.heap.size + 1) w1.heap.size tb (insL f [] (cl.take k)) (.slice none 0 0) [])) (fun i _ => cl.length - (intOf i).toNat)
  case atStart => exact ⟨0, Nat.zero_le _, rfl, HS0⟩
  case round =>
    obtain ⟨k, hk, rfl, HSk⟩ := hrel
    have TTk := Aside0.mk (TT.out.below HSk.out.hB)
    have hzr : w1.heap.size ≤ wr.heap.size := HSk.out.hB.size
    have HBK : Aside0 (Below w.heap.size w wr) := ⟨HB1.out.trans (HSk.out.hB.mono (by omega))⟩
    by_cases hlt : k < cl.length
    · obtain ⟨adl, e0, hx⟩ := (HCL.out.below HBK.out).at_ (k : Int) (by omega) (by omega)
      obtain ⟨adl', e1, hx0⟩ := (HCL.out.below HBK.out).at_ 0 (Int.le_refl _) (by omega)
      subst e0
      cases e1
      have lx0 : wr.cell? adl = some (.int .i64 x0) := by
        have h := hx0
        rw [HCLE.out] at h
        simpa [Addr.add, rd] using h
      have HTK := Aside0.mk (take_rd hlt)
      obtain ⟨x, hxe⟩ : ∃ x, x = rd cl (k : Int) := ⟨_, rfl⟩
      have hxm : x ∈ cl := by rw [hxe]; exact rd_mem hlt
      have HXM := Aside0.mk hxm
      have HXK : Aside0 (cl[k]? = some x) := ⟨by rw [hxe]; simp [rd, List.getD_eq_getElem?_getD, List.getElem?_eq_getElem hlt]⟩
      have hnin : x ∉ insL f [] (cl.take k) := by
        intro h
        rcases mem_insL.1 h with h | h
        · simp at h
        · have h2 := HND.out
          rw [← List.take_append_drop k cl, List.nodup_append] at h2
          have h3 : x ∈ cl.drop k := by rw [drop_rd hlt, ← hxe]; simp
          exact h2.2.2 x h x h3 rfl
      rw [← hxe] at hx HTK
      rw [Int.toNat_natCast] at hx
      clear hxe hx0
      have hfx : Fits x := HFX.out x hxm
      have HIN : Aside0 ((setF (insL f [] (cl.take k)) x).isSome = false) := ⟨by rw [setF_some]; simpa using hnin⟩
      have HF1 : Aside0 (isFalseB f x = true) := ⟨HAL.out x hxm⟩
      have HXs : Aside0 ((f (neg x)).isSome = true) := ⟨isFalseB_some HF1.out⟩
      have HFX0 : Aside0 (Fits x0) := ⟨HFX.out x0 (by rw [HCLE.out]; simp)⟩
      have HX0s : Aside0 ((f (neg x0)).isSome = true) := ⟨isFalseB_some (HAL.out x0 (by rw [HCLE.out]; simp))⟩
      have hl0b : ((Mk f M x).f1 == 0) = false := beq_eq_false_iff_ne.2 (HL0.out x hxm)
      have s1 := HSk.out.s1
      have HBD : Aside0 ((insL f [] (cl.take k)).length < maxLen) := ⟨by
        have h1 : (insL f [] (cl.take k)).length ≤ M.length := (Fall.insL HP.out (f := f) (F := []) ⟨List.Pairwise.nil, by simp, by simp⟩ (fun y hy => isFalseB_some (HAL.out y (List.mem_of_mem_take hy))) (fun y hy => HFX.out y (List.mem_of_mem_take hy))).len VV.out
        unfold maxLen; omega⟩
      have hrk : wr.heap[w.heap.size]? = some (.cells #[.slice (some adl) cl.length cC, .int .i64 back0, .slice AN ch0.length cN] 29 (0, 0)) := (HSk.out.hB.block _ (by omega)).trans HB51.out
      obtain ⟨l0r, _, _, _⟩ := cells3 hrk
      clear hnin hxm hrk
      go_wp2_with (first
        | (at_lookup; refine wp_lookup_ok _ rfl _ _ 44 rfl 3 3 Try.underlying44 Try.underlying3 Try.underlying3 (zeroE _) w1.heap.size _ _ rfl HSk.out.map x rfl hfx ?_; rw [HIN.out])
        | (go_at_call 12; refine (isFalse_calls tb pb M.length f x wr hfx TTk.out.c2 TTk.out.pm).mono ?_; rintro e w' ⟨rfl, hd⟩; obtain ⟨nd2, rfl⟩ := hd.out; clear hd; rw [HF1.out])
        | (go_at_call 19; refine (mark_at (TTk.out.below (w' := wr.drewN nd2) ⟨rfl, rfl, rfl, Nat.le_refl _, fun _ _ => rfl⟩) x hfx HXs.out).mono ?_; rintro e w3 ⟨rfl, hb3⟩; have hb3' : Below wr.heap.size wr w3 := (pw_below_drewN (Below.refl wr.heap.size wr) nd2).trans hb3; have S3 := Aside0.mk (HSk.out.below hb3'); have T3 := Aside0.mk (TT.out.below S3.out.hB); have l0 := pw_cell_below hb3' l0r; have lx := pw_cell_below hb3' lx0; clear hb3 hb3')
        | (refine wp_level _ rfl _ rfl rfl ?_))
      by_cases hk0 : k = 0
      · subst hk0
        refine Reg.by_order [(0, false), (1, false), (2, false), (3, false), (4, false), (7, false), (8, false), (9, false), (10, false), (11, false), (5, true), (6, false), (12, true), (13, false), (14, false), (15, false)] [] (fun W => W.cell? ⟨w.heap.size, 0, none⟩ = some (.slice (some adl) cl.length cC) ∧ W.cell? adl = some (.int .i64 x0)) (by kernel_rfl) (by kernel_rfl) (fun _ _ d _ _ h => by cases d <;> exact h) ⟨l0, lx⟩ ?_
        have hz00 : decide (((0 : Nat) : Int) > 0) = false := by decide
        refine Reg.held_at (v := ?_) rfl rfl rfl ?_ ?_
        rotate_left
        · intro W hW
          obtain ⟨h1, h2⟩ := hW
          go_simp
          first | done | rfl
        go_frame
        refine Reg.held_at (v := .bool false) rfl rfl rfl ?_ ?_
        · intro W hW
          obtain ⟨h1, h2⟩ := hW
          go_simp
          first | done | omega | (simp only [hz00]; done) | rfl
        go_frame
        refine Reg.held_at (v := ?_) rfl rfl rfl ?_ ?_
        rotate_left
        · intro W hW
          obtain ⟨h1, h2⟩ := hW
          go_simp
          first | done | rfl
        go_frame
        iterate 7
          refine Reg.off_at rfl rfl rfl ?_
          go_frame
        refine Reg.skip_on rfl rfl rfl ⟨l0, lx⟩ ?_
        go_frame
        refine Reg.off_at rfl rfl rfl ?_
        go_frame
        refine Reg.skip_on rfl rfl rfl ⟨l0, lx⟩ ?_
        go_frame
        iterate 2
          refine Reg.off_at rfl rfl rfl ?_
          go_frame
        refine Reg.held_at (v := ?_) rfl rfl rfl ?_ ?_
        rotate_left
        · intro W hW
          obtain ⟨h1, h2⟩ := hW
          go_simp
          first | done | rfl
        go_frame
        refine Reg.nil_ ?_
        have s1' := S3.out.s1
        go_wp2_with (at_mapUpdate; refine wp_update _ rfl (.tmp 87) (.tmp 88) _ 44 rfl 3 3 Try.underlying44 Try.underlying3 Try.underlying3 w1.heap.size _ _ rfl (MapII.of_block S3.out.map rfl) HBD.out x 1 rfl rfl hfx (by decide) ?_; intro w6 ho6 hg6 hs6; have HO6 := Aside0.mk ho6; have HG6 : Aside0 (w3.grownBy w6 (some w1.heap.size)) := ⟨⟨hg6.os, hg6.tape, hg6.output, hg6.size, hg6.block⟩⟩; clear ho6 hg6 hs6)
        go_roundw
        case rel => exact ⟨0 + 1, by omega, by go_num, ⟨by rw [HTK.out, insL_snoc]; exact S3.out.turn HG6.out (by rw [setF_ins]; exact HO6.out)⟩⟩
        case measure => simp [intOf]; omega
      · have hzk : decide ((k : Int) > 0) = true := by simp; omega
        have hge : decide ((Mk f M x).f1 ≥ (Mk f M x0).f1) = false := by
          have hxr : x ∈ cr := by
            have h := HXK.out
            rw [HCLE.out] at h
            obtain ⟨j, rfl⟩ : ∃ j, k = j + 1 := ⟨k - 1, by omega⟩
            exact List.mem_of_getElem? (by simpa using h)
          have := HLX.out x hxr
          unfold lvl at this
          simp; omega
        refine Reg.by_order [(0, false), (1, false), (2, false), (3, false), (4, false), (7, false), (8, false), (9, false), (10, false), (11, false), (5, true), (6, false), (12, true), (13, false), (14, false), (15, false)] [] (fun W => W.cell? ⟨w.heap.size, 0, none⟩ = some (.slice (some adl) cl.length cC) ∧ W.cell? adl = some (.int .i64 x0)) (by kernel_rfl) (by kernel_rfl) (fun _ _ d _ _ h => by cases d <;> exact h) ⟨l0, lx⟩ ?_
        refine Reg.held_at (v := ?_) rfl rfl rfl ?_ ?_
        rotate_left
        · intro W hW
          obtain ⟨h1, h2⟩ := hW
          go_simp
          first | done | rfl
        go_frame
        refine Reg.held_at (v := .bool true) rfl rfl rfl ?_ ?_
        · intro W hW
          obtain ⟨h1, h2⟩ := hW
          go_simp
          first | done | omega | (simp only [hzk]; done) | rfl
        go_frame
        iterate 8
          refine Reg.held_at (v := ?_) rfl rfl rfl ?_ ?_
          rotate_left
          · intro W hW
            obtain ⟨h1, h2⟩ := hW
            go_simp
            first | done | rfl
          go_frame
        refine Reg.eff_on rfl rfl (fun K hK => ?_)
        go_simp
        refine (mark_at (T3.out.below (w' := w3.drew) ⟨rfl, rfl, rfl, Nat.le_refl _, fun _ _ => rfl⟩) x hfx HXs.out).mono ?_
        rintro e w4 ⟨rfl, hb4⟩
        replace hb4 : Below w3.heap.size w3 w4 := (show Below w3.heap.size w3 w3.drew from ⟨rfl, rfl, rfl, Nat.le_refl _, fun _ _ => rfl⟩).trans hb4
        refine hK _ _ (fun _ => ⟨pw_cell_below hb4 l0, pw_cell_below hb4 lx⟩) ?_
        clear hK
        have HB4 := Aside0.mk hb4
        have S4 := Aside0.mk (S3.out.below hb4)
        have T4 := Aside0.mk (TT.out.below S4.out.hB)
        clear hb4
        refine Reg.held_at rfl rfl rfl (fun W _ => level_run _ rfl _ rfl) ?_
        go_frame
        refine Reg.eff_on rfl rfl (fun K hK => ?_)
        go_simp
        refine (mark_at T4.out x0 HFX0.out HX0s.out).mono ?_
        rintro e w5 ⟨rfl, hb5⟩
        refine hK _ _ (fun _ => ⟨pw_cell_below hb5 (pw_cell_below HB4.out l0), pw_cell_below hb5 (pw_cell_below HB4.out lx)⟩) ?_
        clear hK
        have S5 := Aside0.mk (S4.out.below hb5)
        clear hb5
        refine Reg.held_at rfl rfl rfl (fun W _ => level_run _ rfl _ rfl) ?_
        go_frame
        refine Reg.held_at (v := .bool false) rfl rfl rfl ?_ ?_
        · intro W hW
          obtain ⟨h1, h2⟩ := hW
          go_simp
          first | done | omega | (simp only [hge]; done) | rfl
        go_frame
        refine Reg.held_at (v := ?_) rfl rfl rfl ?_ ?_
        rotate_left
        · intro W hW
          obtain ⟨h1, h2⟩ := hW
          go_simp
          first | done | rfl
        go_frame
        refine Reg.nil_ ?_
        have s1' := S5.out.s1
        go_wp2_with (at_mapUpdate; refine wp_update _ rfl (.tmp 87) (.tmp 88) _ 44 rfl 3 3 Try.underlying44 Try.underlying3 Try.underlying3 w1.heap.size _ _ rfl (MapII.of_block S5.out.map rfl) HBD.out x 1 rfl rfl hfx (by decide) ?_; intro w6 ho6 hg6 hs6; have HO6 := Aside0.mk ho6; have HG6 : Aside0 (w5.grownBy w6 (some w1.heap.size)) := ⟨⟨hg6.os, hg6.tape, hg6.output, hg6.size, hg6.block⟩⟩; clear ho6 hg6 hs6)
        go_roundw
        case rel => exact ⟨k + 1, by omega, by go_num, ⟨by rw [HTK.out, insL_snoc]; exact S5.out.turn HG6.out (by rw [setF_ins]; exact HO6.out)⟩⟩
        case measure => simp [intOf]; omega
    · have HS1 := HSk.out
      rw [List.take_of_length_le (by omega)] at HS1
      have hF0 : Fall f (insL f [] cl) := Fall.insL HP.out ⟨List.Pairwise.nil, by simp, by simp⟩ (fun y hy => isFalseB_some (HAL.out y hy)) HFX.out
      obtain ⟨F0, hF0e⟩ : ∃ F0, F0 = insL f [] cl := ⟨_, rfl⟩
      rw [← hF0e] at hF0 HS1
      have HF0E := Aside0.mk hF0e
      have HF0 := Aside0.mk hF0
      have HSS := Aside0.mk HS1
      have hlF : F0.length ≤ M.length := hF0.len VV.out
      have hlF0 : F0.length ≤ 1099511627776 := by omega
      have TT2 := Aside0.mk (TT.out.below HS1.hB)
      obtain ⟨G, hG⟩ : ∃ G, G = lessG f C M x0 F0 F0 := ⟨_, rfl⟩
      have hGl : G.2.length ≤ 1099512676352 := by
        rw [hG]
        refine Nat.le_trans (lessG_len F0 F0) ?_
        exact Nat.le_trans (Nat.mul_le_mul (Nat.le_trans hlF hM) (Nat.succ_le_succ hM)) (by decide)
      have HGG := Aside0.mk hG
      have hsbr : w1.heap.size + 1 < wr.heap.size := World.block_lt_of_cell? _ _ HS1.s0
      clear HSk HS1 hF0e hF0 hG
      go_wp2_with (first
        | (go_at_call 20; refine (falling_calls (w1.heap.size + 1) tb w1.heap.size pb _ M.length f F0 wr HSS.out.s0 HSS.out.s1 TT2.out.c2 TT2.out.pm HSS.out.map HF0.out HP.out hlF0).mono ?_; rintro e w4 ⟨v4, rfl, ho4, hb4⟩; obtain ⟨Av, cv4, rfl⟩ := own_slice ho4; have HV := Aside0.mk ho4; have S4 := Aside0.mk (HSS.out.below hb4); clear ho4 hb4))
      obtain ⟨b0, hb0⟩ : ∃ b0, b0 = wr.heap.size := ⟨_, rfl⟩
      rw [← hb0] at HV hsbr
      clear hb0
      go_loopw [93] (fun i wr => ∃ (k : Nat) (F ch : List Int) (cv : Value), k ≤ F0.length ∧ i = .int .i64 k ∧ Aside0 (SetAt w1 wr (w1.heap.size + 1) w1.heap.size tb F cv ch) ∧ Aside0 (Fall f F) ∧ Aside0 (G.1 = (lessG f C M x0 (F0.drop k) F).1 ∧ G.2 = ch ++ (lessG f C M x0 (F0.drop k) F).2) ∧ Aside0 (wr.ownsRow b0 3 1 (.slice Av F0.length cv4) F0.length (nums .i64 F0)) ∧ Aside0 (∀ k, cv.ownBlock = some k → (Value.slice Av F0.length cv4).ownBlock ≠ some k)) (fun i _ => F0.length - (intOf i).toNat)
      case atStart => exact ⟨0, F0, [], _, Nat.zero_le _, rfl, S4, HF0, ⟨by rw [HGG.out]; rfl, by rw [HGG.out]; rfl⟩, HV, ⟨fun k hk => by simp [Value.ownBlock] at hk⟩⟩
      case round =>
        obtain ⟨k2, F, ch, cv, hk2, rfl, HSj, HFj, HGj, HVj, HNj⟩ := hrel
        have TTj := Aside0.mk (TT.out.below HSj.out.hB)
        have hzj : w1.heap.size ≤ wr.heap.size := HSj.out.hB.size
        have HBJ : Aside0 (Below w.heap.size w wr) := ⟨HB1.out.trans (HSj.out.hB.mono (by omega))⟩
        have hrk5 : wr.heap[w.heap.size]? = some (.cells #[.slice AC cl.length cC, .int .i64 back0, .slice AN ch0.length cN] 29 (0, 0)) := (HSj.out.hB.block _ (by omega)).trans HB51.out
        obtain ⟨l0, _, l2, _⟩ := cells3 hrk5
        obtain ⟨adl, e0, hx0⟩ := (HCL.out.below HBJ.out).at_ 0 (Int.le_refl _) (by omega)
        subst e0
        have lx : wr.cell? adl = some (.int .i64 x0) := by
          have h := hx0
          rw [HCLE.out] at h
          simpa [Addr.add, rd] using h
        clear hx0 hrk5
        have hchl : ch.length ≤ 1099512676352 := by
          have h := congrArg List.length HGj.out.2
          rw [List.length_append] at h
          omega
        by_cases hlt2 : k2 < F0.length
        · obtain ⟨adv, e1, hy⟩ := (own_reads' HVj.out).at_ (k2 : Int) (by omega) (by omega)
          subst e1
          obtain ⟨y, hye⟩ : ∃ y, y = rd F0 (k2 : Int) := ⟨_, rfl⟩
          have hym : y ∈ F0 := by rw [hye]; exact rd_mem hlt2
          have hG1 := HGj.out
          rw [drop_rd hlt2, ← hye, lessG_cons] at hG1
          rw [← hye] at hy
          rw [Int.toNat_natCast] at hy
          clear hye
          have hfy : Fits y := HF0.out.fits y hym
          have HYs : Aside0 ((f (neg y)).isSome = true) := ⟨HF0.out.isf y hym⟩
          by_cases hyx : y = x0
          · rw [if_neg (by simp [hyx])] at hG1
            have HG2 := Aside0.mk hG1
            have hyb : (y != x0) = false := by simp [hyx]
            clear hG1 hyx hym
            go_wp2
            go_roundw
            case rel => exact ⟨k2 + 1, F, ch, cv, by omega, by go_num, HSj, HFj, HG2, HVj, HNj⟩
            case measure => simp [intOf]; omega
          · have hyb : (y != x0) = true := by simp [hyx]
            obtain ⟨np1, np2⟩ := VV.out.need_pre HYs.out
            have NP2 := Aside0.mk np2
            clear np2
            by_cases hnb : needB f C M F (Mk f M y) = true
            · rw [if_pos ⟨hyx, hnb⟩] at hG1
              have HG2 := Aside0.mk hG1
              have HNB := Aside0.mk hnb
              have HR2 := Aside0.mk (needB_ne hnb)
              have HF2 : Aside0 (Fall f (resF f C M F y)) := ⟨VV.out.resF_fall HP.out HFj.out HYs.out HR2.out⟩
              clear hG1 hyx hym hnb
              go_wp2_with (first
                | (go_at_call 21; refine (needless_calls TT.out HSj.out y hfy HYs.out _ rfl np1 NP2.out).mono ?_; rw [HNB.out]; rintro e w5 ⟨rfl, hb5⟩; have S5 := Aside0.mk (HSj.out.below hb5); have HV5 := Aside0.mk (pw_own_below HVj.out hb5); clear hb5)
                | (go_at_call 14; refine (resolve_at VV.out TT.out S5.out HFj.out hM' (by omega) y hfy HYs.out HR2.out).mono ?_; rintro e w6 ⟨rfl, cv6, hS6, hR6, hL6⟩; have S6 := Aside0.mk hS6; have HV6 := Aside0.mk (own_fr2 HV5.out hR6 (by omega) (by omega) HNj.out); have HN6 := Aside0.mk (later_ne (W' := w6) HV5.out hL6 HNj.out); clear hS6 hR6 hL6)
                | (go_at_call 15; refine (clean_calls VV.out TT.out S6.out HF2.out hM' (by simp; omega)).mono ?_; rintro e w7 ⟨rfl, cv7, hS7, hR7, hL7⟩; have S7 := Aside0.mk hS7; have HV7 := Aside0.mk (own_fr2 HV6.out hR7 (by omega) (by omega) HN6.out); have HN7 := Aside0.mk (later_ne (W' := w7) HV6.out hL7 HN6.out); clear hS7 hR7 hL7))
              go_roundw
              case rel => exact ⟨k2 + 1, _, _, _, by omega, by go_num, S7, ⟨VV.out.cleanG_fall HP.out _ HF2.out⟩, ⟨HG2.out.1, by rw [HG2.out.2]; simp⟩, HV7, HN7⟩
              case measure => simp [intOf]; omega
            · rw [if_neg (fun h => hnb h.2)] at hG1
              have HG2 := Aside0.mk hG1
              have HNB : Aside0 (needB f C M F (Mk f M y) = false) := ⟨by simpa using hnb⟩
              clear hG1 hyx hym hnb
              go_wp2_with (first
                | (go_at_call 21; refine (needless_calls TT.out HSj.out y hfy HYs.out _ rfl np1 NP2.out).mono ?_; rw [HNB.out]; rintro e w5 ⟨rfl, hb5⟩; have S5 := Aside0.mk (HSj.out.below hb5); have HV5 := Aside0.mk (pw_own_below HVj.out hb5); clear hb5))
              go_roundw
              case rel => exact ⟨k2 + 1, F, ch, cv, by omega, by go_num, S5, HFj, HG2, HV5, HNj⟩
              case measure => simp [intOf]; omega
        · have hG1 := HGj.out
          rw [List.drop_eq_nil_of_le (by omega)] at hG1
          have hGF : G.1 = F := hG1.1
          have hGc : G.2 = ch := by rw [hG1.2]; simp [lessG]
          have HOUT : Aside0 (lessF f C M x0 cl ch0 = (x0 :: restF x0 F, backF f M (restF x0 F), ch0 ++ ch)) := ⟨by
            show (x0 :: restF x0 (lessG f C M x0 (insL f [] cl) (insL f [] cl)).1, backF f M (restF x0 (lessG f C M x0 (insL f [] cl) (insL f [] cl)).1), ch0 ++ (lessG f C M x0 (insL f [] cl) (insL f [] cl)).2) = _
            rw [← HF0E.out, ← HGG.out, hGF, hGc]⟩
          have hrk6 : wr.heap[w.heap.size + 1]? = some (.cells #[.slice none 0 0, .int .i64 0, .slice none 0 0] 29 (0, 0)) := (HSj.out.hB.block _ (by omega)).trans HB61.out
          have HRK6 := Aside0.mk hrk6
          have hfx0 : Fits x0 := HFX.out x0 (by rw [HCLE.out]; simp)
          clear hG1 hGF hGc hrk6
          go_wp2
          refine Reg.by_order [(0, false), (1, false), (2, false), (3, false), (4, false), (5, false), (6, false), (7, true), (8, true), (9, true)] [8, 9] (fun W => W.cell? ⟨w.heap.size, 0, none⟩ = some (.slice (some adl) cl.length cC) ∧ W.cell? ⟨w.heap.size, 2, none⟩ = some (.slice AN ch0.length cN) ∧ W.cell? adl = some (.int .i64 x0)) (by kernel_rfl) (by kernel_rfl) (fun _ _ d _ _ h => by cases d <;> exact h) ⟨l0, l2, lx⟩ ?_
          iterate 7
            refine Reg.held_at (v := ?_) rfl rfl rfl ?_ ?_
            rotate_left
            · intro W hW
              obtain ⟨h1, h2, h3⟩ := hW
              go_simp
              first | done | rfl
            go_frame
          refine Reg.eff_on rfl rfl (fun K hK => ?_)
          go_simp
          refine (told_calls VV.out TT.out (HSj.out.below (w' := wr.drew) ⟨rfl, rfl, rfl, Nat.le_refl _, fun _ _ => rfl⟩) HFj.out hM' (by omega) x0 hfx0 AN cN ch0 (HCH.out.below (w1 := wr.drew) (HBJ.out.trans ⟨rfl, rfl, rfl, Nat.le_refl _, fun _ _ => rfl⟩)) (by omega)).mono ?_
          rintro e w7 ⟨vC, vN, rfl, hoC, hoN, hap, hb7⟩
          obtain ⟨AC7, cC7, rfl⟩ := own_slice hoC
          obtain ⟨AN7, cN7, rfl⟩ := own_slice hoN
          have hb7' : Below wr.heap.size wr w7 := (show Below wr.heap.size wr wr.drew from ⟨rfl, rfl, rfl, Nat.le_refl _, fun _ _ => rfl⟩).trans hb7
          refine hK _ _ (fun _ => ⟨pw_cell_below hb7' l0, pw_cell_below hb7' l2, pw_cell_below hb7' lx⟩) ?_
          clear hK
          have hrk7 : w7.heap[w.heap.size + 1]? = some (.cells #[.slice none 0 0, .int .i64 0, .slice none 0 0] 29 (0, 0)) := (hb7'.block _ (by omega)).trans HRK6.out
          obtain ⟨r0, r1, r2, zr⟩ := cells3 hrk7
          have zr0 := zr 0
          have zr1 := zr 1
          have zr2 := zr 2
          have HRK7 := Aside0.mk hrk7
          have HB7 : Aside0 (Below w.heap.size w w7) := ⟨HBJ.out.trans (hb7'.mono (by omega))⟩
          have hlC : (x0 :: restF x0 F).length = (restF x0 F).length + 1 := rfl
          have hlN : (ch0 ++ ch).length = ch0.length + ch.length := by simp
          rw [hlN] at hoN hap
          rw [hlC] at hoC hap
          have HOC := Aside0.mk hoC
          have HON := Aside0.mk hoN
          have HAP := Aside0.mk hap
          clear hoC hoN hap zr hrk7 hb7 hb7' l0 l2 lx hlC hlN
          refine Reg.eff_on rfl rfl (fun K hK => ?_)
          go_simp
          refine hK _ _ (fun h => absurd (by decide) h) ?_
          clear hK
          refine Reg.eff_on rfl rfl (fun K hK => ?_)
          go_simp
          refine hK _ _ (fun h => absurd (by decide) h) ?_
          clear hK
          refine Reg.nil_ ?_
          go_wp2
          obtain ⟨q0, q1, q2, _⟩ := cells3 (set3 HRK7.out (.slice AC7 ((restF x0 F).length + 1) cC7) (.int .i64 (backF f M (restF x0 F))) (.slice AN7 (ch0.length + ch.length) cN7))
          have hbC := own_base HOC.out
          have hbN := own_base HON.out
          have hdz : wr.drew.heap.size = wr.heap.size := rfl
          rw [hdz] at hbC hbN
          refine bodyPost_ret (v := .tuple #[.agg #[.slice AC7 ((restF x0 F).length + 1) cC7, .int .i64 (backF f M (restF x0 F)), .slice AN7 (ch0.length + ch.length) cN7], .int .i64 0]) ?_ rfl ⟨?_, ?_⟩
          · simp [results, Try.results8, go_sem, q0, q1, q2]
          · have h := below_set3 HB7.out (Nat.le_succ _) (.slice AC7 ((restF x0 F).length + 1) cC7) (.int .i64 (backF f M (restF x0 F))) (.slice AN7 (ch0.length + ch.length) cN7)
            simpa using h
          · rw [HOUT.out]
            refine ⟨_, _, rfl, ?_, ?_, HAP.out⟩
            · have h := (own_mono HOC.out (b' := w.heap.size) (by rw [hdz]; omega)).kept (grownBy_set3 (b := w.heap.size + 1) (.slice AC7 ((restF x0 F).length + 1) cC7) (.int .i64 (backF f M (restF x0 F))) (.slice AN7 (ch0.length + ch.length) cN7)) (.inr fun e => by have := hbC _ e; omega)
              simpa using h
            · have h := (own_mono HON.out (b' := w.heap.size) (by rw [hdz]; omega)).kept (grownBy_set3 (b := w.heap.size + 1) (.slice AC7 ((restF x0 F).length + 1) cC7) (.int .i64 (backF f M (restF x0 F))) (.slice AN7 (ch0.length + ch.length) cN7)) (.inr fun e => by have := hbN _ e; omega)
              simpa using h
end Go.Proofs.Ytjjlcnjhmkackaa.T
