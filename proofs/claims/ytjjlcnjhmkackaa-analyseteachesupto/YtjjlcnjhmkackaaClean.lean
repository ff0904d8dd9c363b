/-
  What clean of analyse leaves. No condition but that trail and set lie as told.
-/
import Derived.Test.YtjjlcnjhmkackaaVd
import Derived.WalkMore
import Derived.ScopeJumps
set_option linter.unusedVariables false
set_option linter.unusedSimpArgs false
namespace Go.Reg
theorem least_of {p : Nat → Prop} (h : ∃ n, p n) : ∃ n, p n ∧ ∀ m, p m → n ≤ m := by
  obtain ⟨n, hn⟩ := h
  induction n using Nat.strongRecOn with
  | _ n ih =>
    by_cases c : ∃ m, m < n ∧ p m
    · obtain ⟨m, h1, h2⟩ := c
      exact ih m h1 h2
    · exact ⟨n, hn, fun m hm => Nat.le_of_not_lt fun hlt => c ⟨m, hlt, hm⟩⟩
/-- a scope whose run jumps back to its first label; the measure is told by what holds at each jump -/
theorem wp_scope_ghost {P : Program} {a : Act} {w : World} {Q : Exit → Act → World → Prop} {b : Code} (l : Nat) (J : Nat → Act → World → Prop) (n0 : Nat) (h0 : J n0 a w)
    (pass : ∀ n a w, J n a w → b.wp P (Exit.jump l (fun a' w' => ∃ m, m < n ∧ J m a' w') Q) a w) : (Code.scope ((Code.label l).seq b)).wp P Q a w := by
  classical
  let μ : Act → World → Nat := fun a w => if h : ∃ n, J n a w then Classical.choose (least_of h) else 0
  have hμ : ∀ a w (h : ∃ n, J n a w), J (μ a w) a w ∧ ∀ m, J m a w → μ a w ≤ m := fun a w h => by
    simp only [μ, dif_pos h]
    exact Classical.choose_spec (least_of h)
  have pass' : ∀ a w, (∃ n, J n a w) → b.wp P (Exit.jump l (fun a' w' => (∃ n, J n a' w') ∧ μ a' w' < μ a w) Q) a w := by
    intro a w he
    refine Code.wp_mono ?_ (pass _ a w (hμ a w he).1)
    intro e a' w' hq
    cases e with
    | goto l' =>
      obtain ⟨h1, m, h2, h3⟩ := hq
      exact ⟨h1, ⟨m, h3⟩, Nat.lt_of_le_of_lt ((hμ a' w' ⟨m, h3⟩).2 m h3) h2⟩
    | normal => exact hq
    | exit id => exact hq
    | ret => exact hq
    | panic ch => exact hq
    | outgrown => exact hq
  refine wp_scope_jumps (rest := Code.skip.seq b) l (fun a w => ∃ n, J n a w) μ (by simp [findLabel]) ?_ (fun a w h => wp_seq (wp_skip (pass' a w h)))
  refine wp_seq (wp_label ?_)
  refine Code.wp_mono ?_ (pass' a w ⟨n0, h0⟩)
  intro e a' w' hq
  cases e with
  | goto l' => exact ⟨hq.1, hq.2.1⟩
  | normal => exact hq
  | exit id => exact hq
  | ret => exact hq
  | panic ch => exact hq
  | outgrown => exact hq
end Go.Reg
namespace Go.Proofs.Ytjjlcnjhmkackaa.T
open Go.RowKit Go.Proofs.YtjjlcnjhmkackaaW.PrintWords Go.Proofs.YtjjlcnjhmkackaaW.PrintLast Go.Proofs.YtjjlcnjhmkackaaW.PrintMore
open Go.Proofs.Ytjjlcnjhmkackaa.PA Go.MapII Go.Proofs

theorem resolve_at {wB w : World} {sb mb tb pb nP : Nat} {Ac Am : Option Addr} {cc cm : Nat} {C : List (List Int)} {M : List S54} {f : Int → Option Int} {F : List Int} {cv : Value} {ch : List Int} (V : Vd f C M) (T : TR wB tb pb nP Ac cc Am cm C M f) (S : SetAt wB w sb mb tb F cv ch)
    (hF : Fall f F) (hM : M.length ≤ 1099511627776) (hch : ch.length ≤ 4398046511104) (x : Int) (hl : Fits x) (hx : (f (neg x)).isSome = true) (hr : (Mk f M x).f2 ≠ -1) :
    Calls Try.prog 14 #[.pointer (some ⟨sb, 0, none⟩), .int .i64 x] w fun e w' => e = .returned (.tuple #[]) ∧ ∃ cv', SetAt wB w' sb mb tb (resF f C M F x) cv' (ch ++ [(Mk f M x).f2]) ∧ Fr w w' sb mb cv ∧ Later w cv cv' := by
  obtain ⟨h1, h2, h3, h4, h5⟩ := V.at hx
  obtain ⟨g1, g2, g3, g4⟩ := V.reason hx hr
  exact resolve_calls T S hF (Nat.le_trans (hF.len V) hM) hch x _ hl h1 _ h4.symm g1 g2 _ rfl (fun l hl hne => (g4 l hl hne).1)

set_option maxRecDepth 100000 in
/-- (*set).clean -/
theorem clean_calls {wB w : World} {sb mb tb pb nP : Nat} {Ac Am : Option Addr} {cc cm : Nat} {C : List (List Int)} {M : List S54} {f : Int → Option Int} {F : List Int} {cv : Value} {ch : List Int} (V : Vd f C M) (T : TR wB tb pb nP Ac cc Am cm C M f) (S : SetAt wB w sb mb tb F cv ch)
    (hF : Fall f F) (hM : M.length ≤ 1099511627776) (hch : ch.length ≤ 3298534883328) :
    Calls Try.prog 15 #[.pointer (some ⟨sb, 0, none⟩)] w fun e w' => e = .returned (.tuple #[]) ∧ ∃ cv', SetAt wB w' sb mb tb (cleanG f C M M.length F).1 cv' (ch ++ (cleanG f C M M.length F).2) ∧ Fr w w' sb mb cv ∧ Later w cv cv' := by
  have hlen := hF.len V
  have htop := V.top0_le hF
  have VV := Aside0.mk V
  have TT := Aside0.mk T
  have HP : Aside0 (Places f) := ⟨T.P⟩
  obtain ⟨G, hG⟩ : ∃ G, G = cleanG f C M M.length F := ⟨_, rfl⟩
  rw [← hG]
  have hJ0 : ∃ cv1 ch1 F1, Aside0 (SetAt wB w sb mb tb F1 cv1 ch1) ∧ Aside0 (Fall f F1) ∧ Aside0 (top0 f M F1 ≤ M.length) ∧ Aside0 (G.1 = (cleanG f C M M.length F1).1 ∧ ch ++ G.2 = ch1 ++ (cleanG f C M M.length F1).2) ∧ Aside0 (Fr w w sb mb cv) ∧ Aside0 (Later w cv cv1) ∧ ch1.length + M.length ≤ 4398046511104 :=
    ⟨cv, ch, F, ⟨S⟩, ⟨hF⟩, ⟨htop⟩, ⟨by rw [hG], by rw [hG]⟩, ⟨Fr.refl _ _ _ _⟩, ⟨.inl rfl⟩, by omega⟩
  clear hG S T hF V htop
  go_enter Try.func15, Try.ntmps15
  refine Reg.wp_scope_ghost 0 (fun n a' w' => (∃ u1 u2 u3 u4 u5 u6 u7 u8 u9 u10 u11 u12 u13 u14 u15 u16 u17 u18 u19 u20 u21 u22 : Value, a' = { tmps := #[.pointer (some ⟨sb, 0, none⟩), u1, u2, u3, u4, u5, u6, u7, u8, u9, u10, u11, u12, u13, u14, u15, u16, u17, u18, u19, u20, u21, u22], defers := [] }) ∧
    ∃ cv1 ch1 F1, Aside0 (SetAt wB w' sb mb tb F1 cv1 ch1) ∧ Aside0 (Fall f F1) ∧ Aside0 (top0 f M F1 ≤ n) ∧ Aside0 (G.1 = (cleanG f C M n F1).1 ∧ ch ++ G.2 = ch1 ++ (cleanG f C M n F1).2) ∧ Aside0 (Fr w w' sb mb cv) ∧ Aside0 (Later w cv cv1) ∧ ch1.length + n ≤ 4398046511104) M.length ⟨⟨_, _, _, _, _, _, _, _, _, _, _, _, _, _, _, _, _, _, _, _, _, _, rfl⟩, hJ0⟩ ?_
  clear hJ0
  rintro n a' w1 ⟨⟨u1, u2, u3, u4, u5, u6, u7, u8, u9, u10, u11, u12, u13, u14, u15, u16, u17, u18, u19, u20, u21, u22, rfl⟩, cv1, ch1, F1, HS1, HF1, HN1, HG1, HR1, HL1, hch1⟩
  have HLN : F1.length ≤ 1099511627776 := Nat.le_trans (HF1.out.len VV.out) hM
  have TT1 := Aside0.mk (TT.out.below HS1.out.hB)
  go_wp2_with (first
    | (go_at_call 20; refine (falling_calls sb tb mb pb _ nP f F1 w1 HS1.out.s0 HS1.out.s1 TT1.out.c2 TT1.out.pm HS1.out.map HF1.out HP.out HLN).mono ?_; rintro e w2 ⟨v, rfl, hv, hb2⟩; obtain ⟨Av, cv2, rfl⟩ := own_slice hv; have HV := Aside0.mk hv; have HB2 := Aside0.mk hb2; clear hv hb2))
  go_loopw [7] (fun v wr => ∃ (k : Nat), k ≤ F1.length ∧ v = .int .i64 k ∧ Aside0 (F1.find? (lv0 f M) = (F1.drop k).find? (lv0 f M)) ∧ Aside0 (Below w2.heap.size w2 wr)) (fun v _ => F1.length - (intOf v).toNat)
  case atStart => exact ⟨0, Nat.zero_le _, rfl, ⟨rfl⟩, ⟨Below.refl _ _⟩⟩
  case round =>
    obtain ⟨k, hk, rfl, HE, HW⟩ := hrel
    have hbr : Below w1.heap.size w1 wr := HB2.out.trans (HW.out.mono HB2.out.size)
    have SSr := Aside0.mk (HS1.out.below hbr)
    have TTr := Aside0.mk (TT.out.below SSr.out.hB)
    have HBR := Aside0.mk hbr
    have s0 := SSr.out.s0
    clear hbr
    by_cases hlt : k < F1.length
    · obtain ⟨ad0, e0, hx⟩ := ((own_reads' HV.out).below HW.out).at_ (k : Int) (by omega) (by omega)
      subst e0
      obtain ⟨x, hxe⟩ : ∃ x, x = rd F1 (k : Int) := ⟨_, rfl⟩
      have hxm : x ∈ F1 := by rw [hxe]; exact rd_mem hlt
      have HE1 : F1.find? (lv0 f M) = (x :: F1.drop (k + 1)).find? (lv0 f M) := by rw [hxe, ← drop_rd hlt]; exact HE.out
      rw [← hxe] at hx
      rw [Int.toNat_natCast] at hx
      clear hxe HE
      have hfx : Fits x := HF1.out.fits x hxm
      have HXs : Aside0 ((f (neg x)).isSome = true) := ⟨HF1.out.isf x hxm⟩
      rw [List.find?_cons] at HE1
      by_cases hl0 : (Mk f M x).f1 = 0
      · have hlb : ((Mk f M x).f1 == 0) = true := by simp [hl0]
        have hlv : lv0 f M x = true := by simp [lv0, lvl, hl0]
        rw [hlv] at HE1
        have HFD : Aside0 (F1.find? (lv0 f M) = some x) := ⟨HE1⟩
        obtain ⟨hx1, hr1, hF2, htop⟩ := VV.out.clean_step HP.out HF1.out HE1
        have HN2 := HN1.out
        obtain ⟨m, rfl⟩ : ∃ m, n = m + 1 := ⟨n - 1, by omega⟩
        have HF2 := Aside0.mk hF2
        have HT2 : Aside0 (top0 f M (resF f C M F1 x) ≤ m) := ⟨by omega⟩
        have HR2 := Aside0.mk hr1
        have HG2 := HG1.out
        unfold cleanG at HG2
        rw [HE1] at HG2
        simp only [] at HG2
        have HG3 := Aside0.mk HG2
        clear HE1 hl0 hx1 hF2 htop HN2 hr1 HG2
        go_wp2_with (first
          | (go_at_call 19; refine (mark_at TTr.out x hfx HXs.out).mono ?_; rintro e w3 ⟨rfl, hb3⟩; have SS3 := Aside0.mk (SSr.out.below hb3); have HB3 := Aside0.mk hb3; clear hb3)
          | (refine wp_level _ rfl _ rfl rfl ?_)
          | (go_at_call 14; refine (resolve_at VV.out TT.out SS3.out HF1.out hM (by omega) x hfx HXs.out HR2.out).mono ?_; rintro e w4 ⟨rfl, cv4, hS4, hR4, hL4⟩; have HS4 := Aside0.mk hS4; have HR4 := Aside0.mk hR4; have HL4 := Aside0.mk hL4; clear hS4 hR4 hL4))
        have hb4 : Below w1.heap.size w1 w3 := HBR.out.trans (HB3.out.mono HBR.out.size)
        have hR14 : Fr w w4 sb mb cv := HR1.out.trans HL1.out ((Fr.of_below hb4 sb mb cv1).trans (.inl rfl) HR4.out)
        have hL14 : Later w cv cv4 := HL1.out.trans (Nat.le_trans HR1.out.size hb4.size) HL4.out
        have HR14 := Aside0.mk hR14
        have HL14 := Aside0.mk hL14
        refine wp_goto ?_
        refine And.intro (?_ : 0 = 0) ?_
        · rfl
        refine ⟨m, Nat.lt_succ_self _, ⟨_, _, _, _, _, _, _, _, _, _, _, _, _, _, _, _, _, _, _, _, _, _, rfl⟩, cv4, _, _, HS4, HF2, HT2, ⟨HG3.out.1, ?_⟩, HR14, HL14, ?_⟩
        · rw [HG3.out.2]; simp
        · simp; omega
      · have hlb : ((Mk f M x).f1 == 0) = false := by simp [hl0]
        have hlv : lv0 f M x = false := by simp [lv0, lvl, hl0]
        rw [hlv] at HE1
        have HE2 : Aside0 (F1.find? (lv0 f M) = (F1.drop (k + 1)).find? (lv0 f M)) := ⟨HE1⟩
        clear HE1 hl0
        go_wp2_with (first
          | (go_at_call 19; refine (mark_at TTr.out x hfx HXs.out).mono ?_; rintro e w3 ⟨rfl, hb3⟩; have HB3 := Aside0.mk hb3; clear hb3)
          | (refine wp_level _ rfl _ rfl rfl ?_))
        go_roundw
        case rel => exact ⟨k + 1, by omega, by go_num, HE2, ⟨HW.out.trans (HB3.out.mono HW.out.size)⟩⟩
        case measure => simp [intOf]; omega
    · have HE1 := HE.out
      rw [List.drop_eq_nil_of_le (by omega)] at HE1
      simp only [List.find?_nil] at HE1
      have hcl : cleanG f C M n F1 = (F1, []) := by
        cases n with
        | zero => rfl
        | succ n => unfold cleanG; rw [HE1]
      have HG2 := HG1.out
      rw [hcl] at HG2
      have HG3 := Aside0.mk HG2
      clear HE HE1 hcl HG2
      go_wp2
      simp only [Exit.jump]
      go_end0
      have hG := HG3.out
      rw [List.append_nil] at hG
      rw [hG.1, hG.2]
      exact ⟨rfl, cv1, SSr.out, HR1.out.trans HL1.out (Fr.of_below HBR.out sb mb cv1), HL1.out⟩
end Go.Proofs.Ytjjlcnjhmkackaa.T
