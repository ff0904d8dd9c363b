/-
  Plain laws: trails that may be, resolution by falling places, the loop of clean. No program in sight.
-/
import Derived.Test.YtjjlcnjhmkackaaNeed
set_option linter.unusedVariables false
set_option linter.unusedSimpArgs false
namespace Go.Proofs.Ytjjlcnjhmkackaa.T
open Go.MapII Go.RowKit Go.Proofs.Ytjjlcnjhmkackaa.PA

/-- marks that may be, over clauses -/
structure Vd (f : Int → Option Int) (C : List (List Int)) (M : List S54) : Prop where
  rng : ∀ y i, f y = some i → 0 ≤ i ∧ i < M.length ∧ (rd_T54 M i).f0 = y
  dec : ∀ i : Int, 0 ≤ i → i < M.length → (rd_T54 M i).f2 = -1 ∨ (0 ≤ (rd_T54 M i).f2 ∧ (rd_T54 M i).f2 < C.length ∧ (rd_T54 M i).f0 ∈ rd_L1 C (rd_T54 M i).f2 ∧
    ∀ l ∈ rd_L1 C (rd_T54 M i).f2, l ≠ (rd_T54 M i).f0 → ∃ j, f (neg l) = some j ∧ j < i)
  lev : ∀ i j : Int, 0 ≤ i → i ≤ j → j < M.length → (rd_T54 M i).f1 ≤ (rd_T54 M j).f1
  pos : ∀ i : Int, 0 ≤ i → i < M.length → 0 ≤ (rd_T54 M i).f1
  new : ∀ i : Int, 0 ≤ i → i < M.length → (rd_T54 M i).f2 = -1 → 0 < (rd_T54 M i).f1 ∧ ∀ j : Int, 0 ≤ j → j < i → (rd_T54 M j).f1 < (rd_T54 M i).f1
  fits : ∀ c ∈ C, ∀ x ∈ c, Fits x

/-- a false literal's level -/
def lvl (f : Int → Option Int) (M : List S54) (x : Int) : Int := (Mk f M x).f1
def lv0 (f : Int → Option Int) (M : List S54) (x : Int) : Bool := decide (lvl f M x = 0)
/-- a set resolved by a literal -/
def resF (f : Int → Option Int) (C : List (List Int)) (M : List S54) (F : List Int) (x : Int) : List Int := insAll f (Mk f M x).f0 (strike F x) (rd_L1 C (Mk f M x).f2)
def top0 (f : Int → Option Int) (M : List S54) (F : List Int) : Nat := match F.find? (lv0 f M) with | none => 0 | some x => (pl f x).toNat + 1
/-- clean, by a measure -/
def cleanG (f : Int → Option Int) (C : List (List Int)) (M : List S54) : Nat → List Int → List Int × List Int
  | 0, F => (F, [])
  | n + 1, F => match F.find? (lv0 f M) with
    | none => (F, [])
    | some x => ((cleanG f C M n (resF f C M F x)).1, (Mk f M x).f2 :: (cleanG f C M n (resF f C M F x)).2)

theorem rd_L1_mem {C : List (List Int)} {i : Int} (h0 : 0 ≤ i) (h1 : i < C.length) : rd_L1 C i ∈ C := by
  unfold rd_L1
  rw [List.getD_eq_getElem?_getD, List.getElem?_eq_getElem (by omega)]
  exact List.getElem_mem _

section
variable {f : Int → Option Int} {C : List (List Int)} {M : List S54} {F : List Int} {x : Int}
theorem Vd.at (V : Vd f C M) (hx : (f (neg x)).isSome = true) : f (neg x) = some (pl f x) ∧ 0 ≤ pl f x ∧ pl f x < M.length ∧ Mk f M x = rd_T54 M (pl f x) ∧ (Mk f M x).f0 = neg x := by
  obtain ⟨i, hi⟩ := Option.isSome_iff_exists.1 hx
  have hp : pl f x = i := by unfold pl; rw [hi]; rfl
  have hm : Mk f M x = rd_T54 M i := by unfold Mk; rw [hi]; rfl
  obtain ⟨h0, h1, h2⟩ := V.rng _ _ hi
  rw [hp, hm]
  exact ⟨hi, h0, h1, rfl, h2⟩
/-- the reason of a literal that was not decided -/
theorem Vd.reason (V : Vd f C M) (hx : (f (neg x)).isSome = true) (hr : (Mk f M x).f2 ≠ -1) : 0 ≤ (Mk f M x).f2 ∧ (Mk f M x).f2 < C.length ∧ neg x ∈ rd_L1 C (Mk f M x).f2 ∧
    ∀ l ∈ rd_L1 C (Mk f M x).f2, l ≠ (Mk f M x).f0 → (f (neg l)).isSome = true ∧ pl f l < pl f x := by
  obtain ⟨h1, h2, h3, h4, h5⟩ := V.at hx
  rw [h4] at hr
  rcases V.dec _ h2 h3 with h | ⟨a, b, c, d⟩
  · exact absurd h hr
  · rw [← h4] at a b c d
    rw [h5] at c
    refine ⟨a, b, c, fun l hl hne => ?_⟩
    obtain ⟨j, hj, hlt⟩ := d l hl hne
    exact ⟨by rw [hj]; rfl, by unfold pl; rw [hj]; exact hlt⟩
theorem Vd.lvl_mono (V : Vd f C M) {y : Int} (hx : (f (neg x)).isSome = true) (hy : (f (neg y)).isSome = true) (h : pl f x ≤ pl f y) : lvl f M x ≤ lvl f M y := by
  obtain ⟨_, a2, a3, a4, _⟩ := V.at hx
  obtain ⟨_, b2, b3, b4, _⟩ := V.at hy
  unfold lvl
  rw [a4, b4]
  exact V.lev _ _ a2 h b3
theorem Vd.lvl_pos (V : Vd f C M) (hx : (f (neg x)).isSome = true) : 0 ≤ lvl f M x := by
  obtain ⟨_, a2, a3, a4, _⟩ := V.at hx
  unfold lvl; rw [a4]; exact V.pos _ a2 a3
/-- a literal of level 0 was not decided -/
theorem Vd.lvl0 (V : Vd f C M) (hx : (f (neg x)).isSome = true) (h : lvl f M x = 0) : (Mk f M x).f2 ≠ -1 := by
  obtain ⟨_, a2, a3, a4, _⟩ := V.at hx
  unfold lvl at h
  rw [a4] at h ⊢
  intro e
  have := (V.new _ a2 a3 e).1
  omega
theorem Vd.resF_fall (V : Vd f C M) (hP : Places f) (hF : Fall f F) (hx : (f (neg x)).isSome = true) (hr : (Mk f M x).f2 ≠ -1) : Fall f (resF f C M F x) := by
  obtain ⟨h1, h2, h3, h4⟩ := V.reason hx hr
  exact (hF.strike x).insAll hP (fun l hl hne => (h4 l hl hne).1) (V.fits _ (rd_L1_mem h1 h2))
theorem mem_resF {z : Int} : z ∈ resF f C M F x ↔ (z ∈ F ∧ z ≠ x) ∨ (z ∈ rd_L1 C (Mk f M x).f2 ∧ z ≠ (Mk f M x).f0) := by
  unfold resF
  rw [mem_insAll, mem_strike]
theorem Vd.resF_mem (V : Vd f C M) (hx : (f (neg x)).isSome = true) (hr : (Mk f M x).f2 ≠ -1) {z : Int} (hz : z ∈ resF f C M F x) : (z ∈ F ∧ z ≠ x) ∨ ((f (neg z)).isSome = true ∧ pl f z < pl f x) := by
  obtain ⟨h1, h2, h3, h4⟩ := V.reason hx hr
  rcases mem_resF.1 hz with h | ⟨h, hne⟩
  · exact .inl h
  · exact .inr (h4 z h hne)
theorem find_props (h : F.find? (lv0 f M) = some x) : x ∈ F ∧ lvl f M x = 0 := by
  refine ⟨List.mem_of_find?_eq_some h, ?_⟩
  have := List.find?_some h
  simpa [lv0] using this
/-- the first literal of level 0 is the one of the greatest place -/
theorem Fall.find_top (hF : Fall f F) (h : F.find? (lv0 f M) = some x) {z : Int} (hz : z ∈ F) (hl : lvl f M z = 0) : pl f z ≤ pl f x := by
  have hs := hF.sorted
  clear hF
  induction F with
  | nil => simp at hz
  | cons y r ih =>
    have hs' := List.pairwise_cons.1 hs
    rw [List.find?_cons] at h
    cases e : lv0 f M y with
    | true =>
      rw [e] at h
      simp at h
      subst h
      rcases List.mem_cons.1 hz with rfl | hz
      · omega
      · have := hs'.1 z hz; omega
    | false =>
      rw [e] at h
      simp at h
      rcases List.mem_cons.1 hz with rfl | hz
      · simp [lv0, hl] at e
      · exact ih h hz hs'.2
theorem Vd.clean_step (V : Vd f C M) (hP : Places f) (hF : Fall f F) (h : F.find? (lv0 f M) = some x) :
    (f (neg x)).isSome = true ∧ (Mk f M x).f2 ≠ -1 ∧ Fall f (resF f C M F x) ∧ top0 f M (resF f C M F x) < top0 f M F := by
  obtain ⟨hm, hl⟩ := find_props h
  have hx := hF.isf x hm
  have hr := V.lvl0 hx hl
  have hF1 := V.resF_fall hP hF hx hr
  refine ⟨hx, hr, hF1, ?_⟩
  unfold top0
  rw [h]
  cases e : (resF f C M F x).find? (lv0 f M) with
  | none => simp
  | some y =>
    simp only []
    obtain ⟨hm2, hl2⟩ := find_props e
    have hlt : pl f y < pl f x := by
      rcases V.resF_mem hx hr hm2 with ⟨h1, h2⟩ | ⟨_, h2⟩
      · have h3 := hF.find_top h h1 hl2
        have h4 : pl f y ≠ pl f x := fun e => h2 (pl_inj hP (hF.isf y h1) hx (hF.fits y h1) (hF.fits x hm) e)
        omega
      · exact h2
    have := hP.pl_bd y
    omega
theorem Vd.top0_le (V : Vd f C M) (hF : Fall f F) : top0 f M F ≤ M.length := by
  unfold top0
  cases e : F.find? (lv0 f M) with
  | none => simp
  | some y =>
    have := V.at (hF.isf y (find_props e).1)
    simp only []
    omega
/-- what the loop of clean keeps -/
theorem Vd.cleanG_fall (V : Vd f C M) (hP : Places f) : ∀ (n : Nat) {F : List Int}, Fall f F → Fall f (cleanG f C M n F).1
  | 0, F, h => h
  | n + 1, F, h => by
    unfold cleanG
    cases e : F.find? (lv0 f M) with
    | none => exact h
    | some x =>
      obtain ⟨h1, h2, h3, h4⟩ := V.clean_step hP h e
      exact V.cleanG_fall hP n h3
theorem cleanG_len (n : Nat) : ∀ {F : List Int}, (cleanG f C M n F).2.length ≤ n := by
  induction n with
  | zero => intro F; simp [cleanG]
  | succ n ih =>
    intro F
    unfold cleanG
    cases e : F.find? (lv0 f M) with
    | none => simp
    | some x => have := ih (F := resF f C M F x); simp; omega
theorem Fall.len (V : Vd f C M) (hF : Fall f F) : F.length ≤ M.length := by
  have h1 : (F.map fun x => (pl f x).toNat).Nodup := by
    rw [List.Nodup, List.pairwise_map]
    refine hF.sorted.imp_of_mem fun {a b} ha hb h e => ?_
    have h1 := V.at (hF.isf a ha)
    have h2 := V.at (hF.isf b hb)
    omega
  have h2 : (F.map fun x => (pl f x).toNat).length ≤ (List.range M.length).length := h1.length_le_of_subset fun z hz => by
    obtain ⟨x, hx, rfl⟩ := List.mem_map.1 hz
    have h1 := V.at (hF.isf x hx)
    exact List.mem_range.2 (by omega)
  simpa using h2
end
end Go.Proofs.Ytjjlcnjhmkackaa.T
