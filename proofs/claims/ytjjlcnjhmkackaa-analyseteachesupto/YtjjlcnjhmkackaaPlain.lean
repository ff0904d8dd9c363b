/-
  Plain laws on sets of literals by falling places: insertion, resolution. No program in sight.
-/
import Derived.Test.YtjjlcnjhmkackaaSet
set_option linter.unusedVariables false
set_option linter.unusedSimpArgs false
namespace Go.Proofs.Ytjjlcnjhmkackaa.T
open Go.MapII Go.RowKit

def insF (f : Int → Option Int) (x : Int) : List Int → List Int
  | [] => [x]
  | y :: r => if x = y then y :: r else if pl f y < pl f x then x :: y :: r else y :: insF f x r
theorem mem_insF {f : Int → Option Int} {x z : Int} : ∀ {F : List Int}, z ∈ insF f x F ↔ z = x ∨ z ∈ F
  | [] => by simp [insF]
  | y :: r => by
    unfold insF
    split
    · rename_i h; subst h; simp
    · split
      · simp
      · simp only [List.mem_cons, mem_insF (F := r)]
        constructor
        · rintro (h | h | h) <;> simp [h]
        · rintro (h | h | h) <;> simp [h]
theorem insF_length {f : Int → Option Int} {x : Int} : ∀ {F : List Int}, (insF f x F).length ≤ F.length + 1
  | [] => by simp [insF]
  | y :: r => by
    unfold insF
    split
    · simp
    · split
      · simp
      · have := insF_length (f := f) (x := x) (F := r); simp; omega
theorem setF_ins {f : Int → Option Int} {x : Int} {F : List Int} : setF (insF f x F) = upd (setF F) x 1 := by
  funext z
  unfold setF upd
  by_cases h : z = x
  · subst h; simp [mem_insF]
  · simp [mem_insF, h]
theorem Fall.ins {f : Int → Option Int} (hP : Places f) {F : List Int} (h : Fall f F) {x : Int} (hx : (f (neg x)).isSome = true) (hf : Fits x) : Fall f (insF f x F) := by
  refine ⟨?_, fun z hz => ?_, fun z hz => ?_⟩
  · have hi := h.isf
    have hft := h.fits
    have hs := h.sorted
    clear h
    induction F with
    | nil => simp [insF]
    | cons y r ih =>
      have hs' := List.pairwise_cons.1 hs
      unfold insF
      split
      · exact hs
      · rename_i hne
        split
        · rename_i hlt
          refine List.pairwise_cons.2 ⟨fun z hz => ?_, hs⟩
          rcases List.mem_cons.1 hz with rfl | hz
          · exact hlt
          · have := hs'.1 z hz; omega
        · rename_i hlt
          have hlt2 : pl f x < pl f y := by
            have : pl f x ≠ pl f y := fun e => hne (pl_inj hP hx (hi y (by simp)) hf (hft y (by simp)) e)
            omega
          refine List.pairwise_cons.2 ⟨fun z hz => ?_, ih (fun z hz => hi z (by simp [hz])) (fun z hz => hft z (by simp [hz])) hs'.2⟩
          rcases mem_insF.1 hz with rfl | hz
          · exact hlt2
          · exact hs'.1 z hz
  · rcases mem_insF.1 hz with rfl | hz
    · exact hx
    · exact h.isf z hz
  · rcases mem_insF.1 hz with rfl | hz
    · exact hf
    · exact h.fits z hz
def strike (F : List Int) (x : Int) : List Int := F.filter fun y => decide (y ≠ x)
theorem mem_strike {F : List Int} {x z : Int} : z ∈ strike F x ↔ z ∈ F ∧ z ≠ x := by simp [strike]
theorem setF_strike {F : List Int} {x : Int} : setF (strike F x) = del (setF F) x := by
  funext z
  unfold setF del
  by_cases h : z = x
  · subst h; simp [mem_strike]
  · simp [mem_strike, h]
theorem Fall.strike {f : Int → Option Int} {F : List Int} (h : Fall f F) (x : Int) : Fall f (strike F x) :=
  ⟨h.sorted.filter _, fun z hz => h.isf z (mem_strike.1 hz).1, fun z hz => h.fits z (mem_strike.1 hz).1⟩
/-- all literals of a clause but one come in -/
def insAll (f : Int → Option Int) (x0 : Int) : List Int → List Int → List Int
  | F, [] => F
  | F, l :: c => insAll f x0 (if l = x0 then F else insF f l F) c
theorem mem_insAll {f : Int → Option Int} {x0 z : Int} : ∀ {c F : List Int}, z ∈ insAll f x0 F c ↔ z ∈ F ∨ (z ∈ c ∧ z ≠ x0)
  | [], F => by simp [insAll]
  | l :: c, F => by
    unfold insAll
    rw [mem_insAll]
    by_cases h : l = x0
    · subst h
      simp only [if_true, List.mem_cons]
      constructor
      · rintro (h | ⟨h1, h2⟩)
        · exact .inl h
        · exact .inr ⟨.inr h1, h2⟩
      · rintro (h | ⟨h1 | h1, h2⟩)
        · exact .inl h
        · exact absurd h1 h2
        · exact .inr ⟨h1, h2⟩
    · rw [if_neg h]
      simp only [mem_insF, List.mem_cons]
      constructor
      · rintro ((rfl | h1) | ⟨h1, h2⟩)
        · exact .inr ⟨.inl rfl, h⟩
        · exact .inl h1
        · exact .inr ⟨.inr h1, h2⟩
      · rintro (h1 | ⟨rfl | h1, h2⟩)
        · exact .inl (.inr h1)
        · exact .inl (.inl rfl)
        · exact .inr ⟨h1, h2⟩
theorem Fall.insAll {f : Int → Option Int} (hP : Places f) {x0 : Int} : ∀ {c F : List Int}, Fall f F → (∀ x ∈ c, x ≠ x0 → (f (neg x)).isSome = true) → (∀ x ∈ c, Fits x) → Fall f (insAll f x0 F c)
  | [], F, h, _, _ => h
  | l :: c, F, h, h1, h2 => by
    unfold T.insAll
    refine Fall.insAll hP ?_ (fun x hx => h1 x (by simp [hx])) (fun x hx => h2 x (by simp [hx]))
    split
    · exact h
    · rename_i hne
      exact h.ins hP (h1 l (by simp) hne) (h2 l (by simp))
theorem insAll_length {f : Int → Option Int} {x0 : Int} : ∀ {c F : List Int}, (insAll f x0 F c).length ≤ F.length + c.length
  | [], F => by simp [insAll]
  | l :: c, F => by
    unfold insAll
    have := insAll_length (f := f) (x0 := x0) (c := c) (F := if l = x0 then F else insF f l F)
    have h2 : (if l = x0 then F else insF f l F).length ≤ F.length + 1 := by split; omega; exact insF_length
    simp; omega
theorem insAll_snoc {f : Int → Option Int} {x0 l : Int} : ∀ {c F : List Int}, insAll f x0 F (c ++ [l]) = (if l = x0 then insAll f x0 F c else insF f l (insAll f x0 F c))
  | [], F => by simp [insAll]
  | y :: c, F => by simp only [List.cons_append, insAll]; exact insAll_snoc
end Go.Proofs.Ytjjlcnjhmkackaa.T
