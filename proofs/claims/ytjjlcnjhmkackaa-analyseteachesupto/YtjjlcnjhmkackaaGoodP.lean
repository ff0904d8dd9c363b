/-
  Plain laws: what First and Less resolve is a trace, and what it leaves. No program in sight.
  Plain laws: what First and Less teach. No program in sight.
-/
import Derived.Test.YtjjlcnjhmkackaaLearnt
set_option linter.unusedVariables false
set_option linter.unusedSimpArgs false
namespace Go.Proofs.Ytjjlcnjhmkackaa.T
open Go.MapII Go.RowKit Go.Proofs.Ytjjlcnjhmkackaa.PA

theorem Tr.append {f : Int → Option Int} {C : List (List Int)} : ∀ {a b F F' G : List Int} {i : Nat}, Tr f C i F a F' → Tr f C (i + a.length) F' b G → Tr f C i F (a ++ b) G
  | [], b, F, F', G, i, h1, h2 => by
    cases h1
    exact h2
  | n :: a, b, F, F', G, i, h1, h2 => by
    obtain ⟨x, hR, hT⟩ := h1.inv
    refine Tr.cons x hR (Tr.append hT ?_)
    have : i + 1 + a.length = i + (n :: a).length := by simp; omega
    rw [this]; exact h2
theorem insAll_insL {f : Int → Option Int} {z : Int} : ∀ {c F : List Int}, (∀ l ∈ c, l ≠ z) → insAll f z F c = insL f F c
  | [], F, h => rfl
  | l :: c, F, h => by
    unfold insAll insL
    rw [if_neg (h l (by simp))]
    exact insAll_insL (fun x hx => h x (by simp [hx]))

section
variable {f : Int → Option Int} {C : List (List Int)} {M : List S54} {lv : Int}
theorem VI.firstG_tr (V : VI f C M M.length lv) (hfC : ∀ c ∈ C, ∀ x ∈ c, Fits x) (hP : Places f) : ∀ (n i : Nat) {F : List Int}, 0 < i → Fall f F → Tr f C i F (firstG f C M n F).2 (firstG f C M n F).1
  | 0, i, F, hi, hF => Tr.nil i F
  | n + 1, i, F, hi, hF => by
    unfold firstG
    split
    · rename_i x y t h
      obtain ⟨h1, h2, h3, h4, _⟩ := (V.vd hfC).first_step hP hF h
      obtain ⟨r1, r2⟩ := V.rs hfC hF h1 h3 i hi
      exact Tr.cons x r1 (by rw [r2]; exact V.firstG_tr hfC hP n (i + 1) (by omega) h4)
    · exact Tr.nil i F
theorem VI.cleanG_tr (V : VI f C M M.length lv) (hfC : ∀ c ∈ C, ∀ x ∈ c, Fits x) (hP : Places f) : ∀ (n i : Nat) {F : List Int}, 0 < i → Fall f F → Tr f C i F (cleanG f C M n F).2 (cleanG f C M n F).1
  | 0, i, F, hi, hF => Tr.nil i F
  | n + 1, i, F, hi, hF => by
    unfold cleanG
    cases e : F.find? (lv0 f M) with
    | none => exact Tr.nil i F
    | some x =>
      obtain ⟨h1, h2, h3, h4⟩ := (V.vd hfC).clean_step hP hF e
      obtain ⟨r1, r2⟩ := V.rs hfC hF (find_props e).1 h2 i hi
      exact Tr.cons x r1 (by rw [r2]; exact V.cleanG_tr hfC hP n (i + 1) (by omega) h3)
theorem Vd.cleanG_mem (V : Vd f C M) (hP : Places f) : ∀ (n : Nat) {F : List Int}, Fall f F → top0 f M F ≤ n → ∀ z, z ∈ (cleanG f C M n F).1 ↔ z ∈ F ∧ lvl f M z ≠ 0
  | 0, F, hF, hn, z => by
    have e : F.find? (lv0 f M) = none := by
      cases e : F.find? (lv0 f M) with
      | none => rfl
      | some x => unfold top0 at hn; rw [e] at hn; simp at hn
    rw [List.find?_eq_none] at e
    show z ∈ F ↔ _
    exact ⟨fun h => ⟨h, fun h2 => e z h (by simp [lv0, h2])⟩, fun h => h.1⟩
  | n + 1, F, hF, hn, z => by
    unfold cleanG
    cases e : F.find? (lv0 f M) with
    | none =>
      rw [List.find?_eq_none] at e
      exact ⟨fun h => ⟨h, fun h2 => e z h (by simp [lv0, h2])⟩, fun h => h.1⟩
    | some x =>
      obtain ⟨h1, h2, h3, h4⟩ := V.clean_step hP hF e
      obtain ⟨hx, hl⟩ := find_props e
      show z ∈ (cleanG f C M n (resF f C M F x)).1 ↔ _
      rw [V.cleanG_mem hP n h3 (by omega) z]
      constructor
      · rintro ⟨hz, hz0⟩
        rcases V.resF_mem h1 h2 hz with ⟨k1, _⟩ | ⟨k1, k2⟩
        · exact ⟨k1, hz0⟩
        · have a1 := V.lvl_mono k1 h1 (by omega)
          have a2 := V.lvl_pos k1
          omega
      · rintro ⟨hz, hz0⟩
        exact ⟨mem_resF.2 (.inl ⟨hz, fun e2 => hz0 (by rw [e2]; exact hl)⟩), hz0⟩
theorem needC_true {F : List Int} {x0 : Int} : ∀ {c : List Int}, needC f M F x0 c = true → ∀ l ∈ c, l = x0 ∨ l ∈ F ∨ ¬ 0 < lvl f M l
  | [], _, l, hl => by simp at hl
  | y :: c, h, l, hl => by
    rw [needC_cons] at h
    by_cases e1 : y = x0
    · rw [if_pos e1] at h
      rcases List.mem_cons.1 hl with rfl | hl
      · exact .inl e1
      · exact needC_true h l hl
    · rw [if_neg e1] at h
      by_cases e2 : y ∈ F
      · rw [if_pos e2] at h
        rcases List.mem_cons.1 hl with rfl | hl
        · exact .inr (.inl e2)
        · exact needC_true h l hl
      · rw [if_neg e2] at h
        by_cases e3 : 0 < (Mk f M y).f1
        · rw [if_pos e3] at h; cases h
        · rw [if_neg e3] at h
          rcases List.mem_cons.1 hl with rfl | hl
          · exact .inr (.inr e3)
          · exact needC_true h l hl

/-- what Less keeps -/
theorem VI.lessG_spec (V : VI f C M M.length lv) (hfC : ∀ c ∈ C, ∀ x ∈ c, Fits x) (hP : Places f) (x0 : Int) : ∀ (r F : List Int) (i : Nat), 0 < i → r.Nodup → (∀ y ∈ r, y ∈ F) → Fall f F → (∀ z ∈ F, lvl f M z ≠ 0) → x0 ∈ F →
    Tr f C i F (lessG f C M x0 r F).2 (lessG f C M x0 r F).1 ∧ Fall f (lessG f C M x0 r F).1 ∧ (∀ z ∈ (lessG f C M x0 r F).1, z ∈ F) ∧ x0 ∈ (lessG f C M x0 r F).1
  | [], F, i, hi, hn, hr, hF, hl, hx => ⟨Tr.nil i F, hF, fun z hz => hz, hx⟩
  | y :: r, F, i, hi, hn, hr, hF, hl, hx => by
    have VD := V.vd hfC
    have hn' := List.nodup_cons.1 hn
    rw [lessG_cons]
    by_cases c : y ≠ x0 ∧ needB f C M F (Mk f M y) = true
    · rw [if_pos c]
      have hyF := hr y (by simp)
      have hys := hF.isf y hyF
      have hr2 := needB_ne c.2
      obtain ⟨s1, s2⟩ := V.rs hfC hF hyF hr2 i hi
      have hF1 := VD.resF_fall hP hF hys hr2
      have hmem := VD.cleanG_mem hP M.length hF1 (VD.top0_le hF1)
      have hF2 := VD.cleanG_fall hP M.length hF1
      have hq : ¬ (Mk f M y).f2 < 0 := by
        intro h
        have := c.2
        unfold needB at this
        rw [if_pos h] at this; cases this
      have hneed : needC f M F (Mk f M y).f0 (rd_L1 C (Mk f M y).f2) = true := by
        have := c.2
        unfold needB at this
        rwa [if_neg hq] at this
      have hsub : ∀ z ∈ (cleanG f C M M.length (resF f C M F y)).1, z ∈ F := by
        intro z hz
        obtain ⟨h1, h2⟩ := (hmem z).1 hz
        rcases mem_resF.1 h1 with ⟨h3, _⟩ | ⟨h3, h4⟩
        · exact h3
        · rcases needC_true hneed z h3 with h5 | h5 | h5
          · exact absurd h5 h4
          · exact h5
          · have h6 := VD.lvl_pos (hF1.isf z h1)
            omega
      have hkeep : ∀ z ∈ F, z ≠ y → z ∈ (cleanG f C M M.length (resF f C M F y)).1 := fun z hz hne => (hmem z).2 ⟨mem_resF.2 (.inl ⟨hz, hne⟩), hl z hz⟩
      obtain ⟨t1, t2, t3, t4⟩ := V.lessG_spec hfC hP x0 r _ (i + 1 + (cleanG f C M M.length (resF f C M F y)).2.length) (by omega) hn'.2 (fun z hz => hkeep z (hr z (by simp [hz])) (fun e => hn'.1 (e ▸ hz))) hF2 (fun z hz => hl z (hsub z hz)) (hkeep x0 hx c.1.symm)
      refine ⟨Tr.cons y s1 (by rw [s2]; exact Tr.append (V.cleanG_tr hfC hP M.length (i + 1) (by omega) hF1) t1), t2, fun z hz => hsub z (t3 z hz), t4⟩
    · rw [if_neg c]
      exact V.lessG_spec hfC hP x0 r F i hi hn'.2 (fun z hz => hr z (by simp [hz])) hF hl hx
end
end Go.Proofs.Ytjjlcnjhmkackaa.T
set_option linter.unusedVariables false
set_option linter.unusedSimpArgs false
namespace Go.Proofs.Ytjjlcnjhmkackaa.T
open Go.MapII Go.RowKit Go.Proofs.Ytjjlcnjhmkackaa.PA

/-- what is taught: a set that a trace leads to, one literal of the greatest level, none of level 0 -/
structure Good (f : Int → Option Int) (C : List (List Int)) (M : List S54) (x0 : Int) (F : List Int) (ch : List Int) : Prop where
  fall : Fall f F
  mem : x0 ∈ F
  pos : ∀ y ∈ F, lvl f M y ≠ 0
  one : ∀ y ∈ F, y ≠ x0 → lvl f M y < lvl f M x0
  tr : Tr f C 0 [] ch F

section
variable {f : Int → Option Int} {C : List (List Int)} {M : List S54} {lv : Int}
theorem mem_restF {x0 y : Int} {F : List Int} : y ∈ restF x0 F ↔ y ∈ F ∧ y ≠ x0 := by simp [restF]
theorem Good.perm {x0 : Int} {F ch : List Int} (G : Good f C M x0 F ch) : (x0 :: restF x0 F).Perm F := by
  refine (List.perm_ext_iff_of_nodup (List.nodup_cons.2 ⟨by simp [restF], G.fall.nodup.filter _⟩) G.fall.nodup).2 fun a => ?_
  by_cases e : a = x0
  · subst e; simp [G.mem]
  · simp [mem_restF, e]
theorem VI.lits (V : VI f C M M.length lv) {F l : List Int} (hF : Fall f F) (hp : l.Perm F) : Lits l := by
  have hm : ∀ x ∈ l, x ∈ F := fun x hx => hp.mem_iff.1 hx
  refine ⟨(hp.nodup_iff).2 hF.nodup, fun x hx => hF.fits x (hm x hx), fun x hx => (V.neg_false (hF.isf x (hm x hx)) (hF.fits x (hm x hx))).2.2.2.2, fun x hx y hy h => ?_⟩
  have hxF := hm x hx
  have hyF := hm y hy
  obtain ⟨_, x0, xm, xn, _⟩ := V.neg_false (hF.isf x hxF) (hF.fits x hxF)
  obtain ⟨_, y0, ym, yn, _⟩ := V.neg_false (hF.isf y hyF) (hF.fits y hyF)
  have fx := fits_iff.1 (hF.fits x hxF)
  have fy := fits_iff.1 (hF.fits y hyF)
  have hc : x = y ∨ x = -y := by
    unfold atomOf at h
    rw [if_neg xm, if_neg ym] at h
    split at h <;> split at h <;> (try unfold wrap64 at h) <;> omega
  rcases hc with h | h
  · exact h
  · have h1 := hF.isf x hxF
    have h2 := V.opp _ (hF.isf y hyF)
    have e1 : neg x = y := by rw [xn]; omega
    have e2 : neg (neg y) = y := neg_neg (hF.fits y hyF) ym
    rw [e1] at h1
    rw [e2, h1] at h2
    cases h2
theorem Fall.le_most (V : Vd f C M) {F : List Int} (hF : Fall f F) {y : Int} (hy : y ∈ F) : lvl f M y ≤ mostF f M F := by
  cases F with
  | nil => simp at hy
  | cons x r =>
    show lvl f M y ≤ lvl f M x
    refine V.lvl_mono (hF.isf y hy) (hF.isf x (by simp)) ?_
    rcases List.mem_cons.1 hy with rfl | h
    · omega
    · have := (List.pairwise_cons.1 hF.sorted).1 y h; omega
theorem VI.firstF_good (V : VI f C M M.length lv) (hfC : ∀ c ∈ C, ∀ x ∈ c, Fits x) (hP : Places f) {conflict back : Int} {cl ch : List Int} (h : firstF f C M conflict = some (cl, back, ch)) :
    ∃ x0 F, cl = x0 :: restF x0 F ∧ back = backF f M (restF x0 F) ∧ Good f C M x0 F ch ∧ ch.length ≤ 2 * M.length + 1 := by
  have VD := V.vd hfC
  unfold firstF at h
  by_cases c1 : conflict < 0
  · rw [if_pos c1] at h; cases h
  rw [if_neg c1] at h
  by_cases c2 : (C.length : Int) ≤ conflict
  · rw [if_pos c2] at h; cases h
  rw [if_neg c2] at h
  by_cases c3 : (rd_L1 C conflict).all (isFalseB f) = false
  · rw [if_pos c3] at h; cases h
  rw [if_neg c3] at h
  by_cases c4 : mostF f M (insL f [] (rd_L1 C conflict)) = 0
  · rw [if_pos c4] at h; cases h
  rw [if_neg c4] at h
  have hall : ∀ x ∈ rd_L1 C conflict, isFalseB f x = true := List.all_eq_true.1 (by simpa using c3)
  have hcf := hfC _ (rd_L1_mem (C := C) (i := conflict) (by omega) (by omega))
  have hlit : ∀ l ∈ rd_L1 C conflict, atomOf l ≠ 0 := fun l hl => (V.neg_false (isFalseB_some (hall l hl)) (hcf l hl)).2.2.2.2
  have hF0 : Fall f (insL f [] (rd_L1 C conflict)) := Fall.insL hP ⟨List.Pairwise.nil, by simp, by simp⟩ (fun y hy => isFalseB_some (hall y hy)) hcf
  obtain ⟨F0, hF0e⟩ : ∃ F0, F0 = insL f [] (rd_L1 C conflict) := ⟨_, rfl⟩
  rw [← hF0e] at h hF0 c4
  have hne : F0 ≠ [] := fun e => c4 (by rw [e]; rfl)
  obtain ⟨g1, g2, g3, g4⟩ := VD.firstG_spec hP M.length hF0 hne (topP_le VD hF0)
  obtain ⟨r, hr⟩ : ∃ r, r = firstG f C M M.length F0 := ⟨_, rfl⟩
  have htr := V.firstG_tr hfC hP M.length 1 (by omega) hF0
  have hrl : r.2.length ≤ M.length := by rw [hr]; exact firstG_len M.length
  simp only [] at h
  rw [← hr] at h g1 g2 g3 g4 htr
  obtain ⟨x, hT⟩ : ∃ x, topF f M r.1 = [x] := by
    cases e : topF f M r.1 with
    | nil => rw [e] at g4; simp at g4
    | cons x t =>
      cases t with
      | nil => exact ⟨x, rfl⟩
      | cons y t => rw [e] at g4; simp at g4
  rw [hT] at h
  simp only [List.headD_cons, Option.some.injEq, Prod.mk.injEq] at h
  obtain ⟨rfl, rfl, rfl⟩ := h
  have hxm : x ∈ topF f M r.1 := by rw [hT]; simp
  obtain ⟨hx1, hx2⟩ := List.mem_filter.1 hxm
  have hx3 : lvl f M x = mostF f M r.1 := by simpa using hx2
  have hmem := VD.cleanG_mem hP M.length g1 (VD.top0_le g1)
  refine ⟨x, (cleanG f C M M.length r.1).1, rfl, rfl, ⟨VD.cleanG_fall hP M.length g1, (hmem x).2 ⟨hx1, by rw [hx3, g3]; exact c4⟩, fun y hy => ((hmem y).1 hy).2, fun y hy hne2 => ?_, ?_⟩, ?_⟩
  · have hyF := ((hmem y).1 hy).1
    have h1 := Fall.le_most VD g1 hyF
    have h2 : lvl f M y ≠ mostF f M r.1 := fun e => by
      have : y ∈ topF f M r.1 := List.mem_filter.2 ⟨hyF, by simp [e]⟩
      rw [hT] at this
      simp at this
      exact hne2 this
    omega
  · refine Tr.cons 0 ⟨by omega, by omega, fun _ => ⟨rfl, rfl⟩, fun h => by omega, fun l hl => by simp at hl, hlit, fun l hl _ => isFalseB_some (hall l hl)⟩ ?_
    have e : insAll f (neg 0) (strike [] 0) (rd_L1 C conflict) = F0 := by
      rw [insAll_insL, hF0e]
      · rfl
      · intro l hl e
        refine hlit l hl ?_
        rw [e]; simp [neg, atomOf, wrap64]
    rw [e]
    exact Tr.append htr (V.cleanG_tr hfC hP M.length _ (by omega) g1)
  · have := cleanG_len (f := f) (C := C) (M := M) M.length (F := r.1)
    simp only [List.length_cons, List.length_append]
    omega
theorem VI.false_of (V : VI f C M M.length lv) {F : List Int} (hF : Fall f F) {y : Int} (hy : y ∈ F) : isFalseB f y = true := by
  have h := V.neg_false (hF.isf y hy) (hF.fits y hy)
  unfold isFalseB
  rw [if_neg h.2.2.2.2]
  exact hF.isf y hy
theorem Good.ch_pos {x0 : Int} {F ch : List Int} (G : Good f C M x0 F ch) : 0 < ch.length := by
  cases ch with
  | nil =>
    have := G.tr.nil_inv
    have h := G.mem
    rw [← this] at h
    simp at h
  | cons a l => simp
theorem VI.lessF_good (V : VI f C M M.length lv) (hfC : ∀ c ∈ C, ∀ x ∈ c, Fits x) (hP : Places f) {x0 : Int} {F ch : List Int} (G : Good f C M x0 F ch) :
    ∃ F' chs, lessF f C M x0 (x0 :: restF x0 F) ch = (x0 :: restF x0 F', backF f M (restF x0 F'), ch ++ chs) ∧ Good f C M x0 F' (ch ++ chs) ∧ (∀ z ∈ F', z ∈ F) ∧ chs.length ≤ M.length * (M.length + 1) := by
  have VD := V.vd hfC
  have hp := G.perm
  have hmem : ∀ z, z ∈ x0 :: restF x0 F ↔ z ∈ F := fun z => hp.mem_iff
  have hF0 : Fall f (insL f [] (x0 :: restF x0 F)) := Fall.insL hP ⟨List.Pairwise.nil, by simp, by simp⟩ (fun y hy => G.fall.isf y ((hmem y).1 hy)) (fun y hy => G.fall.fits y ((hmem y).1 hy))
  have he : insL f [] (x0 :: restF x0 F) = F := by
    refine G.fall.unique hP ((List.perm_ext_iff_of_nodup hF0.nodup G.fall.nodup).2 fun z => ?_) (hF0.sorted.imp fun h => by omega)
    rw [mem_insL]
    simp [hmem z]
  have hpos := G.ch_pos
  obtain ⟨t1, t2, t3, t4⟩ := V.lessG_spec hfC hP x0 F F (0 + ch.length) (by omega) G.fall.nodup (fun y hy => hy) G.fall G.pos G.mem
  have hl : (lessG f C M x0 F F).2.length ≤ M.length * (M.length + 1) := Nat.le_trans (lessG_len F F) (Nat.mul_le_mul_right _ (G.fall.len VD))
  refine ⟨(lessG f C M x0 F F).1, (lessG f C M x0 F F).2, ?_, ⟨t2, t4, fun y hy => G.pos y (t3 y hy), fun y hy hne => G.one y (t3 y hy) hne, Tr.append G.tr t1⟩, t3, hl⟩
  show (x0 :: restF x0 (lessG f C M x0 (insL f [] (x0 :: restF x0 F)) (insL f [] (x0 :: restF x0 F))).1, backF f M (restF x0 (lessG f C M x0 (insL f [] (x0 :: restF x0 F)) (insL f [] (x0 :: restF x0 F))).1), ch ++ (lessG f C M x0 (insL f [] (x0 :: restF x0 F)) (insL f [] (x0 :: restF x0 F))).2) = _
  rw [he]
end
end Go.Proofs.Ytjjlcnjhmkackaa.T
