/-
  Replay of analyse: slices.Contains, the order of its sort, and traces of resolutions. No condition but that the slices lie as told.
-/
import Derived.Test.YtjjlcnjhmkackaaLess
set_option linter.unusedVariables false
set_option linter.unusedSimpArgs false
namespace Go.Proofs.Ytjjlcnjhmkackaa.T
open Go.RowKit Go.Proofs.YtjjlcnjhmkackaaW.PrintWords Go.Proofs.YtjjlcnjhmkackaaW.PrintLast Go.Proofs.YtjjlcnjhmkackaaW.PrintMore
open Go.Proofs.Ytjjlcnjhmkackaa.PA Go.MapII Go.Proofs Go.Sort Go.Lib

theorem index_ev (c : List Int) (x : Int) (hc : c.length ≤ 9223372036854775806) : ∀ (n j : Nat), n + j = c.length → ∃ r, api_Clause_int_39.l0 (n + 1) c x (c.length : Int) (j : Int) = some r ∧ (0 ≤ r ↔ x ∈ c.drop j)
  | 0, j, h => by
    refine ⟨-1, ?_, ?_⟩
    · unfold api_Clause_int_39.l0
      rw [if_neg (by omega)]
    · rw [List.drop_eq_nil_of_le (by omega)]; simp
  | n + 1, j, h => by
    have hj : j < c.length := by omega
    unfold api_Clause_int_39.l0
    rw [if_pos (by omega), if_pos (by omega), if_pos (by omega), drop_rd hj]
    by_cases e : x = rd c (j : Int)
    · rw [if_pos e]
      exact ⟨j, rfl, by simp [e]⟩
    · rw [if_neg e]
      obtain ⟨r, h1, h2⟩ := index_ev c x hc n (j + 1) (by omega)
      have hw : wrap64 ((j : Int) + 1) = ((j + 1 : Nat) : Int) := by unfold wrap64; omega
      rw [hw]
      exact ⟨r, h1, by rw [h2]; simp [e]⟩
theorem contains_calls {w : World} {A : Option Addr} {cc : Nat} {c : List Int} (x : Int) (hr : Kd.C (Kd.int .i64) w A c.length c) (hcc : c.length ≤ cc) (hc : c.length ≤ 1099511627776) :
    Calls Try.prog 31 #[.slice A c.length cc, .int .i64 x] w fun e w' => e = .returned (.bool (decide (x ∈ c))) ∧ Drawn0 w w' := by
  obtain ⟨r, h1, h2⟩ := index_ev c x (by omega) c.length 0 (by omega)
  refine api_Clause_int_31.calls (c.length + 1) A cc c x _ w hr hcc ?_
  unfold api_Clause_int_31.f api_Clause_int_39.f
  have h1' : api_Clause_int_39.l0 (c.length + 1) c x (c.length : Int) 0 = some r := h1
  rw [h1']
  simp only [Option.bind_some, Option.some.injEq]
  simp only [List.drop_zero] at h2
  by_cases e : x ∈ c
  · simp [e, h2.2 e]
  · have : ¬ 0 ≤ r := fun h => e (h2.1 h)
    simp [e, this]

/-- the order of Replay's sort -/
def cfR (a b : Int) : Int := if atomOf a = atomOf b then wrap64 (b - a) else wrap64 (atomOf a - atomOf b)
theorem cmpR_calls (a b : Int) (w : World) : Calls Try.prog 33 #[.int .i64 a, .int .i64 b] w fun e w' => e = .returned (.int .i64 (cfR a b)) ∧ ∃ q, w' = w.drewN q := by
  unfold cfR
  by_cases c : atomOf a = atomOf b
  · rw [if_pos c]
    have cb : (atomOf a != atomOf b) = false := by simp [c]
    clear c
    go_enter Try.func33, Try.ntmps33
    go_wp2_with (first | (go_at_call 25; refine (atom_calls _ _).mono ?_; rintro e w' ⟨rfl, hd⟩; obtain ⟨nd, rfl⟩ := hd.out; clear hd))
    go_ret
    exact ⟨by first | rfl | (rw [wrap_eq]), _, rfl⟩
  · rw [if_neg c]
    have cb : (atomOf a != atomOf b) = true := by simp [c]
    clear c
    go_enter Try.func33, Try.ntmps33
    go_wp2_with (first | (go_at_call 25; refine (atom_calls _ _).mono ?_; rintro e w' ⟨rfl, hd⟩; obtain ⟨nd, rfl⟩ := hd.out; clear hd))
    go_ret
    exact ⟨by first | rfl | (rw [wrap_eq]), _, rfl⟩
theorem atomOf_bd {x : Int} (hx : Fits x) : 0 ≤ atomOf x ∧ atomOf x ≤ 9223372036854775807 := by
  have := fits_iff.1 hx
  unfold atomOf
  split
  · omega
  · split
    · unfold wrap64; omega
    · omega

theorem cfR_lt {x y : Int} (hx : Fits x) (hy : Fits y) (h : atomOf x = atomOf y → x = y) : decide (cfR x y < 0) = decide (atomOf x < atomOf y) := by
  have h1 := atomOf_bd hx
  have h2 := atomOf_bd hy
  unfold cfR
  by_cases c : atomOf x = atomOf y
  · rw [if_pos c, h c]
    simp [wrap64]
  · rw [if_neg c]
    have : wrap64 (atomOf x - atomOf y) = atomOf x - atomOf y := by unfold wrap64; omega
    rw [this]
    exact decide_eq_decide.2 (by omega)
/-- Replay's sort, of literals none of which is another's opposite -/
theorem sortR_calls {w : World} {base : Nat} {v : Value} {F xs : List Int} (hF : ∀ x ∈ F, Fits x) (hgo : ∀ a ∈ F, ∀ b ∈ F, atomOf a = atomOf b → a = b) (hne : F ≠ []) (hp : xs.Perm F) (hown : w.ownsRow base 3 1 v xs.length (nums .i64 xs)) (hlen : xs.length ≤ 1099511627776) :
    Calls Try.prog 32 #[v, .func (.func 33) #[] #[]] w fun e w' => e = .returned (.tuple #[]) ∧ ∃ ys : List Int, ys.Perm F ∧ ys.Pairwise (fun a b => atomOf a ≤ atomOf b) ∧ w'.ownsRow base 3 1 v ys.length (nums .i64 ys) ∧ w.grownBy w' v.ownBlock := by
  obtain ⟨z, hz⟩ := List.exists_mem_of_ne_nil F hne
  haveI : Inhabited {x : Int // x ∈ F} := ⟨⟨z, hz⟩⟩
  let enc : {x : Int // x ∈ F} → Value := fun x => .int .i64 x.1
  let cf : {x : Int // x ∈ F} → {x : Int // x ∈ F} → Int := fun x y => cfR x.1 y.1
  have hlt : ∀ x y, ltOf cf x y = decide (atomOf x.1 < atomOf y.1) := fun x y => cfR_lt (hF x.1 x.2) (hF y.1 y.2) (hgo x.1 x.2 y.1 y.2)
  have hO : SWO (ltOf cf) := {
    irrefl := fun x => by rw [hlt]; simp
    trans := fun x y z h1 h2 => by rw [hlt] at *; simp at *; omega
    ntrans := fun x y z h1 h2 => by rw [hlt] at *; simp at *; omega }
  let lx : List {x : Int // x ∈ F} := xs.attach.map fun x => ⟨x.1, hp.mem_iff.1 x.2⟩
  have hv : lx.map (·.1) = xs := by simp [lx, List.map_map, Function.comp_def]
  have he : lx.map enc = nums .i64 xs := by
    have : lx.map enc = (lx.map (·.1)).map (Value.int .i64) := by simp [enc, List.map_map, Function.comp_def]
    rw [this, hv]; rfl
  have hl : lx.length = xs.length := by simp [lx]
  have eg : ∀ args w, (callFunc 33 args).run Try.prog w = .ok (.enter 33 args) w := enters_of Try.func33 (by kernel_rfl) rfl
  have hc : Srt.Cmp enc cf 33 #[] w v := fun W hW x y => cmpR_calls x.1 y.1 W
  refine (Srt.sort32 enc (fun _ => rfl) cf hO 33 #[] base 3 v lx w (by rw [he, hl]; exact hown) eg (by rw [hl]; omega) hc).mono ?_
  rintro e w' ⟨rfl, ys, h1, h2, h3, h4⟩
  refine ⟨rfl, ys.map (·.1), ?_, ?_, ?_, h4⟩
  · have := h1.map (·.1)
    rw [hv] at this
    exact this.trans hp
  · rw [List.pairwise_map]
    refine h2.imp fun {a b} hab => ?_
    rw [hlt] at hab
    simp at hab
    exact hab
  · have : ys.map enc = nums .i64 (ys.map (·.1)) := by simp [enc, nums, List.map_map, Function.comp_def]
    rw [this] at h3
    simpa using h3

/-- one step of Replay: the clause's literals, and the literal that it resolves -/
structure RS (f : Int → Option Int) (C : List (List Int)) (i : Nat) (F : List Int) (n b : Int) : Prop where
  n0 : 0 ≤ n
  n1 : n < C.length
  at0 : i = 0 → F = [] ∧ b = 0
  atS : 0 < i → b ∈ F ∧ b ≠ 0
  one : ∀ l ∈ F, neg l ∈ rd_L1 C n ↔ l = b
  lit : ∀ l ∈ rd_L1 C n, atomOf l ≠ 0
  isf : ∀ l ∈ rd_L1 C n, l ≠ neg b → (f (neg l)).isSome = true
inductive Tr (f : Int → Option Int) (C : List (List Int)) : Nat → List Int → List Int → List Int → Prop
  | nil (i : Nat) (F : List Int) : Tr f C i F [] F
  | cons {i : Nat} {F ns G : List Int} {n : Int} (b : Int) : RS f C i F n b → Tr f C (i + 1) (insAll f (neg b) (strike F b) (rd_L1 C n)) ns G → Tr f C i F (n :: ns) G

section
variable {f : Int → Option Int} {C : List (List Int)} {M : List S54} {lv : Int}
theorem VI.neg_false (V : VI f C M M.length lv) {x : Int} (hx : (f (neg x)).isSome = true) (hf : Fits x) : atomOf (neg x) ≠ 0 ∧ x ≠ 0 ∧ x ≠ -9223372036854775808 ∧ neg x = -x ∧ atomOf x ≠ 0 := by
  obtain ⟨i, hi⟩ := Option.isSome_iff_exists.1 hx
  have h1 := V.lit _ _ hi
  have h2 := neg_lit (V.fy _ _ hi) h1
  have := fits_iff.1 hf
  unfold neg wrap64 at h2
  have hx0 : x ≠ 0 := by omega
  have hxm : x ≠ -9223372036854775808 := by omega
  refine ⟨h1, hx0, hxm, by unfold neg wrap64; omega, ?_⟩
  unfold atomOf
  rw [if_neg hxm]
  split
  · unfold wrap64; omega
  · exact hx0
/-- a resolution is a step of Replay -/
theorem VI.rs (V : VI f C M M.length lv) (hfC : ∀ c ∈ C, ∀ x ∈ c, Fits x) {F : List Int} (hF : Fall f F) {x : Int} (hx : x ∈ F) (hr : (Mk f M x).f2 ≠ -1) (i : Nat) (hi : 0 < i) : RS f C i F (Mk f M x).f2 x ∧ insAll f (neg x) (strike F x) (rd_L1 C (Mk f M x).f2) = resF f C M F x := by
  have VD := V.vd hfC
  have hxs := hF.isf x hx
  obtain ⟨h1, h2, h3, h4⟩ := VD.reason hxs hr
  obtain ⟨_, _, _, _, h5⟩ := VD.at hxs
  obtain ⟨_, hx0, _, _, _⟩ := V.neg_false hxs (hF.fits x hx)
  have hcf := hfC _ (rd_L1_mem h1 h2)
  refine ⟨⟨h1, h2, fun h => by omega, fun _ => ⟨hx, hx0⟩, fun l hl => ⟨fun h => ?_, fun h => by subst h; exact h3⟩, fun l hl => ?_, fun l hl hne => (h4 l hl (by rw [h5]; exact hne)).1⟩, by unfold resF; rw [h5]⟩
  · have hls := hF.isf l hl
    by_cases e : neg l = neg x
    · exact neg_inj (hF.fits l hl) (hF.fits x hx) e
    · have := (h4 _ h (by rw [h5]; exact e)).1
      rw [V.opp _ hls] at this
      cases this
  · by_cases e : l = neg x
    · obtain ⟨i, hi⟩ := Option.isSome_iff_exists.1 hxs
      rw [e]; exact V.lit _ _ hi
    · exact (V.neg_false (h4 l hl (by rw [h5]; exact e)).1 (hcf l hl)).2.2.2.2
end
end Go.Proofs.Ytjjlcnjhmkackaa.T
