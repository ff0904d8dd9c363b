/-
  What top of analyse answers. No condition but that trail and set lie as told.
-/
import Derived.Test.YtjjlcnjhmkackaaClean
set_option linter.unusedVariables false
set_option linter.unusedSimpArgs false
namespace Go.Proofs.Ytjjlcnjhmkackaa.T
open Go.RowKit Go.Proofs.YtjjlcnjhmkackaaW.PrintWords Go.Proofs.YtjjlcnjhmkackaaW.PrintLast Go.Proofs.YtjjlcnjhmkackaaW.PrintMore
open Go.Proofs.Ytjjlcnjhmkackaa.PA Go.MapII Go.Proofs

def mostF (f : Int → Option Int) (M : List S54) : List Int → Int
  | [] => 0
  | x :: _ => lvl f M x
def topF (f : Int → Option Int) (M : List S54) (F : List Int) : List Int := F.filter fun x => lvl f M x == mostF f M F
def IsMax (g : Int → Int) (xs : List Int) (m : Int) : Prop := (∀ x ∈ xs, g x ≤ m) ∧ 0 ≤ m ∧ (m = 0 ∨ ∃ x ∈ xs, g x = m)
theorem IsMax.step {g : Int → Int} {xs : List Int} {m x : Int} (h : IsMax g xs m) : IsMax g (xs ++ [x]) (max m (g x)) := by
  obtain ⟨h1, h2, h3⟩ := h
  refine ⟨fun y hy => ?_, by omega, ?_⟩
  · rcases List.mem_append.1 hy with hy | hy
    · have := h1 y hy; omega
    · have : y = x := by simpa using hy
      subst this; omega
  · by_cases c : m ≤ g x
    · exact .inr ⟨x, by simp, by omega⟩
    · have e : max m (g x) = m := by omega
      rw [e]
      rcases h3 with h3 | ⟨y, hy, hyy⟩
      · exact .inl h3
      · exact .inr ⟨y, by simp [hy], hyy⟩
theorem Vd.isMax {f : Int → Option Int} {C : List (List Int)} {M : List S54} (V : Vd f C M) {F xs : List Int} {m : Int} (hF : Fall f F) (hp : xs.Perm F) (h : IsMax (lvl f M) xs m) : m = mostF f M F := by
  obtain ⟨h1, h2, h3⟩ := h
  cases F with
  | nil =>
    have : xs = [] := hp.eq_nil
    subst this
    rcases h3 with h3 | ⟨y, hy, _⟩
    · exact h3
    · simp at hy
  | cons x r =>
    have hx : x ∈ xs := hp.mem_iff.2 (by simp)
    have hle := h1 x hx
    have hx0 := V.lvl_pos (hF.isf x (by simp))
    show m = lvl f M x
    rcases h3 with h3 | ⟨y, hy, hyy⟩
    · omega
    · have hyF := hp.mem_iff.1 hy
      have : pl f y ≤ pl f x := by
        rcases List.mem_cons.1 hyF with rfl | h
        · omega
        · have := (List.pairwise_cons.1 hF.sorted).1 y h; omega
      have := V.lvl_mono (hF.isf y hyF) (hF.isf x (by simp)) this
      omega

theorem filter_take_snoc {p : Int → Bool} {F : List Int} {k : Nat} (h : k < F.length) : (F.take (k + 1)).filter p = (F.take k).filter p ++ (if p (rd F (k : Int)) then [rd F (k : Int)] else []) := by
  rw [take_rd h, List.filter_append]
  congr 1
  simp only [List.filter_cons, List.filter_nil]

set_option maxRecDepth 100000 in
/-- (*set).top -/
theorem top_calls {wB w : World} {sb mb tb pb nP : Nat} {Ac Am : Option Addr} {cc cm : Nat} {C : List (List Int)} {M : List S54} {f : Int → Option Int} {F : List Int} {cv : Value} {ch : List Int} (V : Vd f C M) (T : TR wB tb pb nP Ac cc Am cm C M f) (S : SetAt wB w sb mb tb F cv ch)
    (hF : Fall f F) (hM : M.length ≤ 1099511627776) :
    Calls Try.prog 13 #[.pointer (some ⟨sb, 0, none⟩)] w fun e w' => ∃ v, e = .returned (.tuple #[v, .int .i64 (mostF f M F)]) ∧ w'.ownsRow w.heap.size 3 1 v (topF f M F).length (nums .i64 (topF f M F)) ∧ Below w.heap.size w w' := by
  have hlen := hF.len V
  have VV := Aside0.mk V
  have TT := Aside0.mk T
  have SS := Aside0.mk S
  have HF := Aside0.mk hF
  have TT0 := Aside0.mk (T.below S.hB)
  have s0 := S.s0
  have s1 := S.s1
  have hsb : sb < w.heap.size := World.block_lt_of_cell? w _ s0
  have hmb : mb < w.heap.size := MapII.lt S.map
  clear S T hF V
  go_enter Try.func13, Try.ntmps13
  go_wp2_with (first | (at_range; refine wp_range _ rfl _ 44 rfl 3 3 Try.underlying44 Try.underlying3 mb F.length (setF F) rfl SS.out.map ?_; intro w0 cnt0 hr0 hg0 hs0 hc0))
  go_frame
  have HB0 : Aside0 (Below w.heap.size w w0) := ⟨(Below.refl _ _).grown hg0 (Nat.le_refl _) (by simp)⟩
  have HZ0 : Aside0 (w.heap.size + 1 ≤ w0.heap.size) := ⟨by rw [hs0]; simp⟩
  have HR0 := Aside0.mk hr0
  clear hr0 hg0 hs0 hc0 s0 s1
  go_loopw [4] (fun v wr => ∃ (most : Int) (xs : List Int) (left : Int → Bool) (cnt : Nat), v = .int .i64 most ∧ Aside0 (IsMax (lvl f M) xs most) ∧ Aside0 (MapII.Ranges Try.prog 3 3 wr mb (w.heap.size) F.length (setF F) left cnt) ∧ Aside0 (Coll F left xs) ∧ Aside0 (Below w.heap.size w wr) ∧ Aside0 (w.heap.size + 1 ≤ wr.heap.size)) (fun _ wr => wr.rangeLeft mb (w.heap.size))
  case atStart => exact ⟨0, [], _, _, rfl, ⟨by simp [IsMax]⟩, HR0, ⟨⟨List.nodup_nil, fun z => by
    simp only [List.not_mem_nil, false_iff, not_and]
    intro hz
    have := HF.out.fits z hz
    simp [setF_some, hz, this]⟩⟩, HB0, HZ0⟩
  case round =>
    obtain ⟨most, xs, left, cnt, rfl, HX, HR, HC, HB, HZ⟩ := hrel
    have SSr := Aside0.mk (SS.out.below HB.out)
    have TTr := Aside0.mk (TT.out.below SSr.out.hB)
    have s0 := SSr.out.s0
    have s1 := SSr.out.s1
    go_wp2_with (first
      | (at_next; refine wp_next _ rfl _ rfl 3 3 Try.underlying3 Try.underlying3 mb (w.heap.size) F.length (setF F) left cnt rfl HR.out (fun hc0 hl0 => ?_) (fun x c w1 cnt1 hx hlx hfx hr1 hlt hg1 hs1 hen => ?_) <;> first | (have HL := Aside0.mk hl0; clear hc0 hl0; skip) | (have HR1 := Aside0.mk hr1; have HLT := Aside0.mk hlt; have HFX := Aside0.mk hfx; have HLX := Aside0.mk hlx; have HG1 := Aside0.mk hg1; have HS1 := Aside0.mk hs1; have HFT := Aside0.mk hx; have hB1 : Below w.heap.size w w1 := HB.out.grown hg1 HB.out.size (fun k hk => by cases hk; omega); have SS1 := Aside0.mk (SS.out.below hB1); have TT1 := Aside0.mk (TT.out.below SS1.out.hB); have HB1 := Aside0.mk hB1; have s0' := SS1.out.s0; have hXF : x ∈ F := (by unfold setF at hfx; split at hfx; assumption; cases hfx); have HXF := Aside0.mk hXF; clear hr1 hlt hfx hlx hg1 hs1 hx hB1 hXF; skip))
      | (go_at_call 19; refine (mark_at TT1.out x HFT.out (HF.out.isf x HXF.out)).mono ?_; rintro e w3 ⟨rfl, hb3⟩; have HB3 := Aside0.mk hb3; clear hb3)
      | (refine wp_level _ rfl _ rfl rfl ?_))
    · have HM : Aside0 (most = mostF f M F) := ⟨VV.out.isMax HF.out (HC.out.perm HF.out.nodup HL.out) HX.out⟩
      clear HX HC HR HL
      refine (falling_calls sb tb mb pb _ nP f F wr s0 s1 TTr.out.c2 TTr.out.pm SSr.out.map HF.out TTr.out.P (Nat.le_trans hlen hM)).mono ?_
      rintro e w2 ⟨v, rfl, hv, hb2⟩
      obtain ⟨Av, cv2, rfl⟩ := own_slice hv
      have HV := Aside0.mk hv
      have HB2 := Aside0.mk hb2
      have SS2 := Aside0.mk (SSr.out.below HB2.out)
      have HBB : Aside0 (Below w.heap.size w w2) := ⟨HB.out.trans (hb2.mono HB.out.size)⟩
      clear hv hb2
      go_wp2
      go_loopw [6, 30] (fun v i wr => ∃ (k : Nat), k ≤ F.length ∧ i = .int .i64 k ∧ Aside0 (wr.ownsRow w2.heap.size 3 1 v ((F.take k).filter fun x => lvl f M x == most).length (nums .i64 ((F.take k).filter fun x => lvl f M x == most))) ∧ Aside0 (Below w2.heap.size w2 wr)) (fun _ i _ => F.length - (intOf i).toNat)
      case atStart => exact ⟨0, Nat.zero_le _, rfl, ⟨own_nil _ _ _ _⟩, ⟨Below.refl _ _⟩⟩
      case round =>
        obtain ⟨k, hk, rfl, HO, HW⟩ := hrel
        clear s0 s1
        have SS3 := Aside0.mk (SS2.out.below HW.out)
        have TT3 := Aside0.mk (TT.out.below SS3.out.hB)
        have s0 := SS3.out.s0
        by_cases hlt : k < F.length
        · obtain ⟨ad0, e0, hx⟩ := ((own_reads' HV.out).below HW.out).at_ (k : Int) (by omega) (by omega)
          subst e0
          have HFS := Aside0.mk (filter_take_snoc (p := fun x => lvl f M x == most) hlt)
          obtain ⟨x, hxe⟩ : ∃ x, x = rd F (k : Int) := ⟨_, rfl⟩
          have hxm : x ∈ F := by rw [hxe]; exact rd_mem hlt
          rw [← hxe] at hx HFS
          rw [Int.toNat_natCast] at hx
          clear hxe
          have hfx : Fits x := HF.out.fits x hxm
          have HXs : Aside0 ((f (neg x)).isSome = true) := ⟨HF.out.isf x hxm⟩
          have hfl : ((F.take k).filter fun x => lvl f M x == most).length ≤ 1099511627776 := Nat.le_trans (List.length_filter_le _ _) (Nat.le_trans (List.length_take_le' _ _) (Nat.le_trans hlen hM))
          by_cases hl0 : (Mk f M x).f1 = most
          · have hlb : ((Mk f M x).f1 == most) = true := by simp [hl0]
            have HFN : Aside0 ((F.take (k + 1)).filter (fun x => lvl f M x == most) = (F.take k).filter (fun x => lvl f M x == most) ++ [x]) := ⟨by rw [HFS.out, if_pos (show (lvl f M x == most) = true from hlb)]⟩
            clear HFS hl0
            obtain ⟨xs1, hxs1⟩ : ∃ xs1, xs1 = (F.take k).filter (fun x => lvl f M x == most) := ⟨_, rfl⟩
            rw [← hxs1] at HO HFN hfl
            clear hxs1
            go_wp2_with (first
              | (go_at_call 19; refine (mark_at TT3.out x hfx HXs.out).mono ?_; rintro e w3 ⟨rfl, hb3⟩; have HB3 := Aside0.mk hb3; have HO3 := Aside0.mk (pw_own_below HO.out hb3); have hz3 := hb3.size; have hz2 := HW.out.size; clear hb3)
              | (refine wp_level _ rfl _ rfl rfl ?_)
              | (at_builtin; go_must (refine print_append_num (w0 := w3) w2.heap.size rfl (.tmp 43) (.tmp 45) 26 3 .i64 8 rfl Try.underlying26 info3 (by decide) u6 xs1 x rfl rfl HO3.out (Below.refl _ _) (by omega) (by omega) ?_); intro v1 w4 ho2 hb2 hg2 hat2))
            go_roundw
            case rel => exact ⟨k + 1, by omega, by go_num, ⟨by rw [HFN.out]; exact ho2⟩, ⟨(HW.out.trans (HB3.out.mono HW.out.size)).grown hg2 (by omega) (fun k hk => by have := own_base HO3.out k hk; omega)⟩⟩
            case measure => simp [intOf]; omega
          · have hlb : ((Mk f M x).f1 == most) = false := by simp [hl0]
            have HFN : Aside0 ((F.take (k + 1)).filter (fun x => lvl f M x == most) = (F.take k).filter (fun x => lvl f M x == most)) := ⟨by rw [HFS.out, if_neg (show ¬ (lvl f M x == most) = true by show ¬ ((Mk f M x).f1 == most) = true; rw [hlb]; decide), List.append_nil]⟩
            clear HFS hl0
            go_wp2_with (first
              | (go_at_call 19; refine (mark_at TT3.out x hfx HXs.out).mono ?_; rintro e w3 ⟨rfl, hb3⟩; have HB3 := Aside0.mk hb3; have HO3 := Aside0.mk (pw_own_below HO.out hb3); clear hb3)
              | (refine wp_level _ rfl _ rfl rfl ?_))
            go_roundw
            case rel => exact ⟨k + 1, by omega, by go_num, ⟨by rw [HFN.out]; exact HO3.out⟩, ⟨HW.out.trans (HB3.out.mono HW.out.size)⟩⟩
            case measure => simp [intOf]; omega
        · have HT : Aside0 ((F.take k).filter (fun x => lvl f M x == most) = topF f M F) := ⟨by rw [List.take_of_length_le (by omega), HM.out]; rfl⟩
          go_wp2
          refine bodyPost_ret (v := .tuple #[u6, .int .i64 most]) ?_ rfl ⟨u6, ?_, ?_, ?_⟩
          · simp [results, Try.results13, go_sem]
          · rw [HM.out]
          · rw [← HT.out]; exact own_mono HO.out HBB.out.size
          · exact HBB.out.trans (HW.out.mono HBB.out.size)
    · go_roundw
      case rel => exact ⟨_, xs ++ [x], _, cnt1, rfl, ⟨HX.out.step⟩, ⟨HR1.out.kept (grown_of_below HB3.out none) (by simp) (by simp)⟩, ⟨HC.out.step HXF.out HLX.out⟩, ⟨HB1.out.trans (HB3.out.mono HB1.out.size)⟩, ⟨by have := HB3.out.size; have := HS1.out; have := HZ.out; omega⟩⟩
      case measure =>
        have h1 := (HR1.out.kept (grown_of_below HB3.out none) (by simp) (by simp)).left_eq
        have h2 := HR.out.left_eq
        have := HLT.out
        rw [h1, h2]; exact this
end Go.Proofs.Ytjjlcnjhmkackaa.T
