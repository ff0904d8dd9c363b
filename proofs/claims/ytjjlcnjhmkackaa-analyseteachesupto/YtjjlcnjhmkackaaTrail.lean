/-
  What the inner functions of analyse that only read a trail (known, isFalse, forces, mark) answer. No condition but that the trail lies as told.
-/
import Derived.Test.YtjjlcnjhmkackaaPAx2
import Derived.Test.YtjjlcnjhmkackaaMapII
import Derived.Test.YtjjlcnjhmkackaaReg
import Derived.Outline
set_option linter.unusedVariables false
set_option linter.unusedSimpArgs false
namespace Go.Proofs.Ytjjlcnjhmkackaa.T
open Go.RowKit Go.Proofs.YtjjlcnjhmkackaaW.PrintWords Go.Proofs.YtjjlcnjhmkackaaW.PrintLast Go.Proofs.YtjjlcnjhmkackaaW.PrintMore
open Go.Proofs.Ytjjlcnjhmkackaa.PA Go.MapII

/-- a map of ints at this program -/
abbrev IM (w : World) (b n : Nat) (f : Int → Option Int) : Prop := MapII.Own Try.prog 3 3 w b n f

def neg (x : Int) : Int := wrap64 (-x)
theorem wrap_eq (x : Int) : IntKind.i64.wrap x = wrap64 x := IntWalk.i64_left x
def atomOf (x : Int) : Int := if x = -9223372036854775808 then 0 else if x < 0 then wrap64 (-x) else x
theorem atom_calls (x : Int) (w : World) : Calls Try.prog 25 #[.int .i64 x] w fun e w' => e = .returned (.int .i64 (atomOf x)) ∧ Drawn0 w w' :=
  analyse_atom.calls x (atomOf x) w (by
    unfold analyse_atom.f atomOf
    by_cases c : x = -9223372036854775808
    · rw [if_pos c, if_pos c]
    · rw [if_neg c, if_neg c]; split <;> rfl)

def isFalseB (f : Int → Option Int) (l : Int) : Bool := if atomOf l = 0 then false else (f (neg l)).isSome
def knownB (f : Int → Option Int) (l : Int) : Bool := (f l).isSome || (f (neg l)).isSome

theorem zeroE (w : World) : (zeroValue 3).run Try.prog w = .ok (.int .i64 0) w := by kernel_rfl

/-- (*trail).isFalse -/
theorem isFalse_calls (tb pb n : Nat) (f : Int → Option Int) (l : Int) (w : World) (hl : Fits l) (h2 : w.cell? ⟨tb, 2, none⟩ = some (.map (some pb))) (hm : IM w pb n f) :
    Calls Try.prog 12 #[.pointer (some ⟨tb, 0, none⟩), .int .i64 l] w fun e w' => e = .returned (.bool (isFalseB f l)) ∧ Drawn0 w w' := by
  have hn : Fits (neg l) := fits_wrap _
  have HM := Aside0.mk hm
  clear hm
  by_cases c : atomOf l = 0
  · have cb : (atomOf l == 0) = true := beq_iff_eq.2 c
    have hr : isFalseB f l = false := by unfold isFalseB; rw [if_pos c]
    rw [hr]
    clear c hr
    go_enter Try.func12, Try.ntmps12
    go_wp2_with (first | (go_at_call 25; refine (atom_calls l _).mono ?_; rintro e w' ⟨rfl, hd⟩; obtain ⟨nd, rfl⟩ := hd.out; clear hd))
    go_ret
    exact ⟨rfl, by repeat (first | exact Drawn0.refl _ | apply Drawn0.step)⟩
  · have cb : (atomOf l == 0) = false := beq_eq_false_iff_ne.2 c
    have hr : isFalseB f l = (f (neg l)).isSome := by unfold isFalseB; rw [if_neg c]
    rw [hr]
    clear c hr
    go_enter Try.func12, Try.ntmps12
    go_wp2_with (first | (go_at_call 25; refine (atom_calls l _).mono ?_; rintro e w' ⟨rfl, hd⟩; obtain ⟨nd, rfl⟩ := hd.out; clear hd) | (at_lookup; refine wp_lookup_ok _ rfl _ _ 44 rfl 3 3 Try.underlying44 Try.underlying3 Try.underlying3 (zeroE _) pb n f rfl (MapII.drewN HM.out _) (neg l) rfl hn ?_))
    go_ret
    exact ⟨rfl, by repeat (first | exact Drawn0.refl _ | apply Drawn0.step)⟩

theorem look_at {w : World} {pb n : Nat} {f : Int → Option Int} (hm : IM w pb n f) (l : Int) (hl : Fits l) : ∀ m, (Instr.lookup 44 (.map (some pb)) (.int .i64 l) false).run Try.prog (w.drewN m) = .ok (.int .i64 ((f l).getD 0)) (w.drewN m) :=
  fun m => run_lookup Try.underlying44 Try.underlying3 Try.underlying3 (zeroE _) (MapII.drewN hm m) l hl
theorem look_ok_at {w : World} {pb n : Nat} {f : Int → Option Int} (hm : IM w pb n f) (l : Int) (hl : Fits l) : ∀ m, (Instr.lookup 44 (.map (some pb)) (.int .i64 l) true).run Try.prog (w.drewN m) = .ok (.tuple #[.int .i64 ((f l).getD 0), .bool (f l).isSome]) (w.drewN m) :=
  fun m => run_lookup_ok Try.underlying44 Try.underlying3 Try.underlying3 (zeroE _) (MapII.drewN hm m) l hl

/-- (*trail).known -/
theorem known_calls (tb pb n : Nat) (f : Int → Option Int) (l : Int) (w : World) (hl : Fits l) (h2 : w.cell? ⟨tb, 2, none⟩ = some (.map (some pb))) (hm : IM w pb n f) :
    Calls Try.prog 26 #[.pointer (some ⟨tb, 0, none⟩), .int .i64 l] w fun e w' => e = .returned (.bool (knownB f l)) ∧ Drawn0 w w' := by
  have hn : Fits (neg l) := fits_wrap _
  have HM := Aside0.mk hm
  clear hm
  unfold knownB
  cases c : (f l).isSome with
  | true =>
    have C := Aside0.mk c
    clear c
    go_enter Try.func26, Try.ntmps26
    go_wp2_with (first | (at_lookup; refine wp_lookup_ok _ rfl _ _ 44 rfl 3 3 Try.underlying44 Try.underlying3 Try.underlying3 (zeroE _) pb n f rfl HM.out l rfl hl ?_; rw [C.out]) | (at_lookup; refine wp_lookup_ok _ rfl _ _ 44 rfl 3 3 Try.underlying44 Try.underlying3 Try.underlying3 (zeroE _) pb n f rfl HM.out (neg l) rfl hn ?_))
    go_ret
    exact ⟨rfl, Drawn0.refl _⟩
  | false =>
    have C := Aside0.mk c
    clear c
    go_enter Try.func26, Try.ntmps26
    go_wp2_with (first | (at_lookup; refine wp_lookup_ok _ rfl _ _ 44 rfl 3 3 Try.underlying44 Try.underlying3 Try.underlying3 (zeroE _) pb n f rfl HM.out l rfl hl ?_; rw [C.out]) | (at_lookup; refine wp_lookup_ok _ rfl _ _ 44 rfl 3 3 Try.underlying44 Try.underlying3 Try.underlying3 (zeroE _) pb n f rfl HM.out (neg l) rfl hn ?_))
    go_ret
    exact ⟨rfl, Drawn0.refl _⟩

def aggOf (m : S54) : Value := .agg #[.int .i64 m.f0, .int .i64 m.f1, .int .i64 m.f2]
/-- (*trail).mark -/
theorem mark_calls (tb pb n : Nat) (f : Int → Option Int) (Am : Option Addr) (cm : Nat) (M : List S54) (l i : Int) (w : World) (hl : Fits l) (h1 : w.cell? ⟨tb, 1, none⟩ = some (.slice Am M.length cm)) (h2 : w.cell? ⟨tb, 2, none⟩ = some (.map (some pb)))
    (HC : Kd.C k54 w Am M.length M) (hm : IM w pb n f) (hi : (f (neg l)).getD 0 = i) (hi0 : 0 ≤ i) (hi1 : i < M.length) :
    Calls Try.prog 19 #[.pointer (some ⟨tb, 0, none⟩), .int .i64 l] w fun e w' => e = .returned (aggOf (rd_T54 M i)) ∧ Below w.heap.size w w' := by
  obtain ⟨ad, rfl, c0, c1, c2⟩ := at_T54 HC i hi0 hi1
  have HCC := Aside0.mk HC
  have hlk := fun o : Obj => look_at (MapII.alloc hm o) (neg l) (fits_wrap _)
  rw [hi] at hlk
  replace hlk : ∀ (o : Obj) (m : Nat), (Instr.lookup 44 (.map (some pb)) (.int .i64 (IntKind.i64.wrap (-l))) false).run Try.prog ((w.alloc o).drewN m) = .ok (.int .i64 i) ((w.alloc o).drewN m) := by
    intro o m; rw [wrap_eq]; exact hlk o m
  unfold aggOf
  have htb : tb < w.heap.size := World.block_lt_of_cell? w _ h1
  have d0 := fun o : Obj => pw_cell_below (below_alloc (Below.refl w.heap.size w) o) c0
  have d1 := fun o : Obj => pw_cell_below (below_alloc (Below.refl w.heap.size w) o) c1
  have d2 := fun o : Obj => pw_cell_below (below_alloc (Below.refl w.heap.size w) o) c2
  clear HC hm hi hl c0 c1 c2
  go_enter Try.func19, Try.ntmps19
  go_wp2
  refine Reg.still_tail 13 (by kernel_rfl) (by kernel_rfl) (fun nd => ?_)
  simp only [List.take_succ_cons, List.take_zero, List.drop_succ_cons, List.drop_zero]
  repeat still_step
  refine wpStill_nil ?_
  go_wp2
  refine bodyPost_ret (v := aggOf (rd_T54 M i)) ?_ rfl ⟨rfl, ?_⟩
  · simp [results, Try.results19, go_sem]
    rfl
  · exact (((pw_below_drewN (below_alloc (Below.refl _ _) _) nd).setCell (by simp) _).setCell (by simp) _).setCell (by simp) _

def forcesB (f : Int → Option Int) (lit : Int) : Bool → List Int → Bool
  | has, [] => has
  | has, l :: c => if l = lit then forcesB f lit true c else if isFalseB f l = true then forcesB f lit has c else false
theorem forcesB_cons (f : Int → Option Int) (lit : Int) (h : Bool) (l : Int) (c : List Int) : forcesB f lit h (l :: c) = if l = lit then forcesB f lit true c else if isFalseB f l = true then forcesB f lit h c else false := rfl
theorem drop_rd {c : List Int} {k : Nat} (h : k < c.length) : c.drop k = rd c (k : Int) :: c.drop (k + 1) := by
  rw [List.drop_eq_getElem_cons h]
  simp [rd, List.getD_eq_getElem?_getD, List.getElem?_eq_getElem h]
theorem rd_mem {c : List Int} {k : Nat} (h : k < c.length) : rd c (k : Int) ∈ c := by
  have : rd c (k : Int) = c[k] := by simp [rd, List.getD_eq_getElem?_getD, List.getElem?_eq_getElem h]
  rw [this]; exact List.getElem_mem h
theorem intOf_nat (k : Nat) : intOf (.int .i64 (k : Int)) = k := rfl

/-- (*trail).forces -/
theorem forces_calls (tb pb n : Nat) (f : Int → Option Int) (A : Option Addr) (cc : Nat) (c : List Int) (lit : Int) (w : World) (HC : Kd.C (Kd.int .i64) w A c.length c) (hcc : c.length ≤ cc) (hf : ∀ x ∈ c, Fits x)
    (h2 : w.cell? ⟨tb, 2, none⟩ = some (.map (some pb))) (hm : IM w pb n f) :
    Calls Try.prog 27 #[.pointer (some ⟨tb, 0, none⟩), .slice A c.length cc, .int .i64 lit] w fun e w' => e = .returned (.bool (forcesB f lit false c)) ∧ Drawn0 w w' := by
  have hlen : c.length ≤ 9223372036854775807 := HC.2.1
  have HCC := Aside0.mk HC
  have HM := Aside0.mk hm
  have HF := Aside0.mk hf
  have H2 := Aside0.mk h2
  clear HC hm hf h2
  go_enter Try.func27, Try.ntmps27
  go_wp2
  go_loopw [7, 12] (fun v i wr => ∃ (k : Nat) (h : Bool), k ≤ c.length ∧ i = .int .i64 k ∧ v = .bool h ∧ Aside0 (forcesB f lit h (c.drop k) = forcesB f lit false c) ∧ Drawn0 w wr) (fun _ i _ => c.length - (intOf i).toNat)
  case atStart => exact ⟨0, false, Nat.zero_le _, rfl, rfl, ⟨rfl⟩, Drawn0.refl _⟩
  case round =>
    obtain ⟨k, h, hk, rfl, rfl, HE, HD⟩ := hrel
    obtain ⟨nd, rfl⟩ := HD.out
    by_cases hlt : k < c.length
    · obtain ⟨ad, rfl, hx⟩ := Kd.at_int HCC.out (k : Int) (by omega) (by omega)
      obtain ⟨x, hxe⟩ : ∃ x, x = rd c (k : Int) := ⟨_, rfl⟩
      have hfx : Fits x := by rw [hxe]; exact HF.out _ (rd_mem hlt)
      have HN : Aside0 (forcesB f lit h (x :: c.drop (k + 1)) = forcesB f lit false c) := ⟨by rw [hxe, ← drop_rd hlt]; exact HE.out⟩
      rw [← hxe] at hx
      rw [Int.toNat_natCast] at hx
      clear HE hxe
      by_cases hl : x = lit
      · subst hl
        have HN' : Aside0 (forcesB f x true (c.drop (k + 1)) = forcesB f x false c) := ⟨by have := HN.out; rw [forcesB_cons] at this; rw [if_pos rfl] at this; exact this⟩
        clear HN
        go_wp2
        go_roundw
        case rel => exact ⟨k + 1, true, by omega, by go_num, rfl, HN', HD.step 0⟩
        case measure => simp [intOf]; omega
      · have hlb : (x == lit) = false := beq_eq_false_iff_ne.2 hl
        cases hi : isFalseB f x with
        | true =>
          have HI := Aside0.mk hi
          have HN' : Aside0 (forcesB f lit h (c.drop (k + 1)) = forcesB f lit false c) := ⟨by have := HN.out; rw [forcesB_cons] at this; rw [if_neg hl, if_pos hi] at this; exact this⟩
          clear HN hi hl
          go_wp2_with (first | (go_at_call 12; refine (isFalse_calls tb pb n f x (w.drewN nd) hfx H2.out (MapII.drewN HM.out nd)).mono ?_; rintro e w' ⟨rfl, hd⟩; obtain ⟨nd2, rfl⟩ := hd.out; clear hd; rw [HI.out]))
          go_roundw
          case rel => exact ⟨k + 1, h, by omega, by go_num, rfl, HN', by repeat (first | exact Drawn0.refl _ | apply Drawn0.step)⟩
          case measure => simp [intOf]; omega
        | false =>
          have HI := Aside0.mk hi
          have HN' : Aside0 (false = forcesB f lit false c) := ⟨by have := HN.out; rw [forcesB_cons] at this; rw [if_neg hl, if_neg (by rw [hi]; decide)] at this; exact this⟩
          clear HN hi hl
          go_wp2_with (first | (go_at_call 12; refine (isFalse_calls tb pb n f x (w.drewN nd) hfx H2.out (MapII.drewN HM.out nd)).mono ?_; rintro e w' ⟨rfl, hd⟩; obtain ⟨nd2, rfl⟩ := hd.out; clear hd; rw [HI.out]))
          go_ret
          exact ⟨by rw [← HN'.out]; rfl, by repeat (first | exact Drawn0.refl _ | apply Drawn0.step)⟩
    · have HN' : Aside0 (h = forcesB f lit false c) := ⟨by have := HE.out; rw [List.drop_eq_nil_of_le (by omega)] at this; exact this⟩
      clear HE
      go_wp2
      go_ret
      exact ⟨by rw [← HN'.out]; rfl, by repeat (first | exact Drawn0.refl _ | apply Drawn0.step)⟩
end Go.Proofs.Ytjjlcnjhmkackaa.T
