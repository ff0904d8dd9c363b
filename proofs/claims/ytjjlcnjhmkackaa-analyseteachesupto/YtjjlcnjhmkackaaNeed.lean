/-
  What needless of analyse answers. No condition but that trail and set lie as told.
-/
import Derived.Test.YtjjlcnjhmkackaaOps
set_option linter.unusedVariables false
set_option linter.unusedSimpArgs false
namespace Go.Proofs.Ytjjlcnjhmkackaa.T
open Go.RowKit Go.Proofs.YtjjlcnjhmkackaaW.PrintWords Go.Proofs.YtjjlcnjhmkackaaW.PrintLast Go.Proofs.YtjjlcnjhmkackaaW.PrintMore
open Go.Proofs.Ytjjlcnjhmkackaa.PA Go.MapII Go.Proofs

def Mk (f : Int → Option Int) (M : List S54) (l : Int) : S54 := rd_T54 M ((f (neg l)).getD 0)
theorem mark_at {w : World} {tb pb nP : Nat} {Ac Am : Option Addr} {cc cm : Nat} {C : List (List Int)} {M : List S54} {f : Int → Option Int} (T : TR w tb pb nP Ac cc Am cm C M f) (l : Int) (hl : Fits l) (hs : (f (neg l)).isSome = true) :
    Calls Try.prog 19 #[.pointer (some ⟨tb, 0, none⟩), .int .i64 l] w fun e w' => e = .returned (aggOf (Mk f M l)) ∧ Below w.heap.size w w' := by
  obtain ⟨i, hi⟩ := Option.isSome_iff_exists.1 hs
  obtain ⟨h0, h1⟩ := T.idx _ _ hi
  unfold Mk
  rw [hi]
  exact mark_calls tb pb nP f Am cm M l i w hl T.c1 T.c2 T.rm T.pm (by rw [hi]; rfl) h0 h1

theorem wp_level {o : Oper} {rest : List Oper} {ops : Array Oper} {a : Act} {w : World} {Q : Exit → Act → World → Prop} (x : Operand) (hop : o.op = .field 54 x 1) (m : S54) (hx : a.eval x = aggOf m) (hw : Region.wanted o (yielded ops a.tmps) = true)
    (h : wpList Try.prog ops Q rest (a.put o.dst (.int .i64 m.f1)) w) : wpList Try.prog ops Q (o :: rest) a w := by
  unfold wpList
  rw [if_pos hw]
  left
  have hr : (execOp a.eval o).run Try.prog w = .ok (.value (.int .i64 m.f1)) w := by
    unfold execOp
    rw [hop]
    simp only [hx, aggOf]
    kernel_rfl
  unfold Oper.wp
  rw [hr]
  exact h
def needC (f : Int → Option Int) (M : List S54) (F : List Int) (x0 : Int) : List Int → Bool
  | [] => true
  | l :: c => if l = x0 then needC f M F x0 c else if l ∈ F then needC f M F x0 c else if 0 < (Mk f M l).f1 then false else needC f M F x0 c
def needB (f : Int → Option Int) (C : List (List Int)) (M : List S54) (F : List Int) (q : S54) : Bool :=
  if q.f2 < 0 then false else needC f M F q.f0 (rd_L1 C q.f2)
theorem needC_cons (f : Int → Option Int) (M : List S54) (F : List Int) (x0 l : Int) (c : List Int) : needC f M F x0 (l :: c) = (if l = x0 then needC f M F x0 c else if l ∈ F then needC f M F x0 c else if 0 < (Mk f M l).f1 then false else needC f M F x0 c) := rfl

set_option maxRecDepth 100000 in
/-- (*set).needless -/
theorem needless_calls {wB w : World} {sb mb tb pb nP : Nat} {Ac Am : Option Addr} {cc cm : Nat} {C : List (List Int)} {M : List S54} {f : Int → Option Int} {F : List Int} {cv : Value} {ch : List Int} (T : TR wB tb pb nP Ac cc Am cm C M f) (S : SetAt wB w sb mb tb F cv ch)
    (lit : Int) (hl : Fits lit) (hs : (f (neg lit)).isSome = true) (q : S54) (hq : Mk f M lit = q) (hr1 : q.f2 < C.length)
    (hc : 0 ≤ q.f2 → ∀ l ∈ rd_L1 C q.f2, l ≠ q.f0 → (f (neg l)).isSome = true) :
    Calls Try.prog 21 #[.pointer (some ⟨sb, 0, none⟩), .int .i64 lit] w fun e w' => e = .returned (.bool (needB f C M F q)) ∧ Below w.heap.size w w' := by
  have HQ := Aside0.mk hq
  clear hq
  have T0 := T.below S.hB
  have c0 := S.s0
  have c1 := S.s1
  have hsb : sb < w.heap.size := World.block_lt_of_cell? w _ c0
  have hmb : mb < w.heap.size := MapII.lt S.map
  have TT := Aside0.mk T
  have SS := Aside0.mk S
  have TT0 := Aside0.mk T0
  have HI := Aside0.mk hs
  have HC := Aside0.mk hc
  clear T S T0 hs hc
  unfold needB
  by_cases hneg : q.f2 < 0
  · rw [if_pos hneg]
    go_enter Try.func21, Try.ntmps21
    go_wp2_with (first
      | (go_at_call 19; refine (mark_at TT0.out lit hl HI.out).mono ?_; rw [HQ.out]; rintro e w1 ⟨rfl, hb1⟩; have HB1 := Aside0.mk hb1; clear hb1; unfold aggOf))
    go_ret
    exact ⟨rfl, below_alloc HB1.out _⟩
  · rw [if_neg hneg]
    have hr0 : 0 ≤ q.f2 := by omega
    obtain ⟨c, hcd⟩ : ∃ c, c = rd_L1 C q.f2 := ⟨_, rfl⟩
    have hmc : c ∈ C := by
      rw [hcd]
      unfold rd_L1
      rw [List.getD_eq_getElem?_getD, List.getElem?_eq_getElem (by omega)]
      exact List.getElem_mem _
    have HFx : Aside0 (∀ x ∈ c, Fits x) := ⟨TT.out.fits c hmc⟩
    have hlc : c.length ≤ 1099511627776 := TT.out.big c hmc
    have HCI : Aside0 (∀ l ∈ c, l ≠ q.f0 → (f (neg l)).isSome = true) := ⟨by rw [hcd]; exact HC.out hr0⟩
    rw [← hcd]
    have HCD := Aside0.mk hcd.symm
    clear hcd HC hmc
    go_enter Try.func21, Try.ntmps21
    go_wp2_with (first
      | (go_at_call 19; refine (mark_at TT0.out lit hl HI.out).mono ?_; rw [HQ.out]; rintro e w1 ⟨rfl, hb1⟩; have SS1 := Aside0.mk (SS.out.below hb1); have HB1 := Aside0.mk hb1; have h1sz := hb1.size; have d1 := SS1.out.s1; have d0 := SS1.out.s0; have hsb1 : sb < w1.heap.size := World.block_lt_of_cell? w1 _ d0; have hmb1 : mb < w1.heap.size := MapII.lt SS1.out.map; clear hb1; unfold aggOf))
    have hgb : ∀ j, (w1.alloc (.cells #[.int .i64 q.f0, .int .i64 q.f1, .int .i64 q.f2] 54)).cell? ⟨w1.heap.size, j, none⟩ = (w1.alloc (.cells #[.int .i64 q.f0, .int .i64 q.f1, .int .i64 q.f2] 54)).cell? ⟨w1.heap.size, j, none⟩ := fun _ => rfl
    have hba := below_alloc (Below.refl w1.heap.size w1) (.cells #[.int .i64 q.f0, .int .i64 q.f1, .int .i64 q.f2] 54)
    obtain ⟨w2, hw2⟩ : ∃ w2, w2 = w1.alloc (.cells #[.int .i64 q.f0, .int .i64 q.f1, .int .i64 q.f2] 54) := ⟨_, rfl⟩
    have e0 : w2.cell? ⟨w1.heap.size, 0, none⟩ = some (.int .i64 q.f0) := by rw [hw2]; simp
    have e2 : w2.cell? ⟨w1.heap.size, 2, none⟩ = some (.int .i64 q.f2) := by rw [hw2]; simp
    rw [← hw2] at hba ⊢
    have SS2 : Aside0 (SetAt wB w2 sb mb tb F cv ch) := ⟨SS1.out.below hba⟩
    have HB2 : Aside0 (Below w.heap.size w w2) := ⟨HB1.out.trans (hba.mono h1sz)⟩
    have TT2 := Aside0.mk (TT.out.below SS2.out.hB)
    obtain ⟨ad, A0, cc0, rfl, hcl, hle, hcr⟩ := at_L1 TT.out.rc _ hr0 hr1
    rw [HCD.out] at hcl hle hcr
    replace hcl := pw_cell_below SS2.out.hB hcl
    have d0' := SS2.out.s0
    have t0' := TT2.out.c0
    have HZ2 : Aside0 (w1.heap.size < w2.heap.size) := ⟨by rw [hw2]; simp⟩
    clear hw2 hgb hba c0 c1 d0 d1 hsb hmb hsb1 hmb1
    refine Reg.still_all (by kernel_rfl) (by kernel_rfl) (fun nd => ?_)
    repeat still_step
    refine wpStill_nil ?_
    go_wp2
    have HCR := Aside0.mk hcr
    have E0 := Aside0.mk e0
    clear hcr e0 e2 hcl d0' t0' hle
    go_loopw [31] (fun v wr => ∃ (k : Nat), k ≤ c.length ∧ v = .int .i64 k ∧ Aside0 (needC f M F q.f0 (c.drop k) = needC f M F q.f0 c) ∧ Aside0 (Below w2.heap.size w2 wr)) (fun v _ => c.length - (intOf v).toNat)
    case atStart => exact ⟨0, Nat.zero_le _, rfl, ⟨rfl⟩, ⟨pw_below_drewN (Below.refl _ _) nd⟩⟩
    case round =>
      obtain ⟨k, hk, rfl, HE, HW⟩ := hrel
      have SSr := Aside0.mk (SS2.out.below HW.out)
      have TTr := Aside0.mk (TT.out.below SSr.out.hB)
      have s0 := SSr.out.s0
      have s1 := SSr.out.s1
      have g0 := pw_cell_below HW.out E0.out
      by_cases hlt : k < c.length
      · obtain ⟨ad0, e0, hx⟩ := Kd.at_int (Kd.C_below HCR.out SSr.out.hB) (k : Int) (by omega) (by omega)
        subst e0
        obtain ⟨x, hxe⟩ : ∃ x, x = rd c (k : Int) := ⟨_, rfl⟩
        have HN : Aside0 (needC f M F q.f0 (x :: c.drop (k + 1)) = needC f M F q.f0 c) := ⟨by rw [hxe, ← drop_rd hlt]; exact HE.out⟩
        have hxm : x ∈ c := by rw [hxe]; exact rd_mem hlt
        have hfx : Fits x := HFx.out x hxm
        have HXS : Aside0 (x ≠ q.f0 → (f (neg x)).isSome = true) := ⟨HCI.out x hxm⟩
        rw [← hxe] at hx
        rw [Int.toNat_natCast] at hx
        clear hxe HE hxm
        have HE1 := HN.out
        rw [needC_cons] at HE1
        by_cases hl0 : x = q.f0
        · have hlb : (x == q.f0) = true := by simp [hl0]
          rw [if_pos hl0] at HE1
          have HE2 := Aside0.mk HE1
          clear HE1 HN hl0
          go_wp2
          go_roundw
          case rel => exact ⟨k + 1, by omega, by go_num, HE2, HW⟩
          case measure => simp [intOf]; omega
        · have hlb : (x == q.f0) = false := by simp [hl0]
          rw [if_neg hl0] at HE1
          have HXs : Aside0 ((f (neg x)).isSome = true) := ⟨HXS.out hl0⟩
          by_cases hin : x ∈ F
          · rw [if_pos hin] at HE1
            have HE2 := Aside0.mk HE1
            have HIN : Aside0 ((setF F x).isSome = true) := ⟨by simp [setF, hin]⟩
            clear HE1 HN hl0 hin
            go_wp2_with (at_lookup; refine wp_lookup_ok _ rfl _ _ 44 rfl 3 3 Try.underlying44 Try.underlying3 Try.underlying3 (zeroE _) mb _ _ rfl SSr.out.map x rfl hfx ?_; rw [HIN.out])
            go_roundw
            case rel => exact ⟨k + 1, by omega, by go_num, HE2, HW⟩
            case measure => simp [intOf]; omega
          · rw [if_neg hin] at HE1
            have HIN : Aside0 ((setF F x).isSome = false) := ⟨by simp [setF, hin]⟩
            by_cases hlv : 0 < (Mk f M x).f1
            · rw [if_pos hlv] at HE1
              have HE2 := Aside0.mk HE1
              have hlv2 : decide ((Mk f M x).f1 > 0) = true := by simpa using hlv
              clear HE1 HN hl0 hin
              go_wp2_with (first
                | (at_lookup; refine wp_lookup_ok _ rfl _ _ 44 rfl 3 3 Try.underlying44 Try.underlying3 Try.underlying3 (zeroE _) mb _ _ rfl SSr.out.map x rfl hfx ?_; rw [HIN.out])
                | (go_at_call 19; refine (mark_at TTr.out x hfx HXs.out).mono ?_; rintro e w3 ⟨rfl, hb3⟩; have HB3 := Aside0.mk hb3; clear hb3)
                | (refine wp_level _ rfl _ rfl rfl ?_))
              go_ret
              exact ⟨by rw [← HE2.out]; rfl, HB2.out.trans ((HW.out.trans (HB3.out.mono HW.out.size)).mono HB2.out.size)⟩
            · rw [if_neg hlv] at HE1
              have HE2 := Aside0.mk HE1
              clear HE1 HN hl0 hin
              go_wp2_with (first
                | (at_lookup; refine wp_lookup_ok _ rfl _ _ 44 rfl 3 3 Try.underlying44 Try.underlying3 Try.underlying3 (zeroE _) mb _ _ rfl SSr.out.map x rfl hfx ?_; rw [HIN.out])
                | (go_at_call 19; refine (mark_at TTr.out x hfx HXs.out).mono ?_; rintro e w3 ⟨rfl, hb3⟩; have HB3 := Aside0.mk hb3; clear hb3)
                | (refine wp_level _ rfl _ rfl rfl ?_))
              go_roundw
              case rel => exact ⟨k + 1, by omega, by go_num, HE2, ⟨HW.out.trans (HB3.out.mono HW.out.size)⟩⟩
              case measure => simp [intOf]; omega
      · have HE1 := HE.out
        rw [List.drop_eq_nil_of_le (by omega)] at HE1
        have HE2 : Aside0 (true = needC f M F q.f0 c) := ⟨HE1⟩
        clear HE HE1
        go_wp2
        go_ret
        exact ⟨by rw [← HE2.out]; rfl, HB2.out.trans (HW.out.mono HB2.out.size)⟩
end Go.Proofs.Ytjjlcnjhmkackaa.T
