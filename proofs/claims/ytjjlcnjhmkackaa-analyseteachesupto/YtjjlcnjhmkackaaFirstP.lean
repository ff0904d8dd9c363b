/-
  Plain law: what load takes is a trail that may be. No program in sight.
  Plain laws: what First resolves. No program in sight.
-/
import Derived.Test.YtjjlcnjhmkackaaLoad
set_option linter.unusedVariables false
set_option linter.unusedSimpArgs false
namespace Go.Proofs.Ytjjlcnjhmkackaa.T
open Go.MapII Go.RowKit Go.Proofs.Ytjjlcnjhmkackaa.PA

theorem forcesB_iff {f : Int → Option Int} {lit : Int} : ∀ {c : List Int} {h : Bool}, forcesB f lit h c = true ↔ (h = true ∨ lit ∈ c) ∧ ∀ l ∈ c, l ≠ lit → isFalseB f l = true
  | [], h => by simp [forcesB]
  | l :: c, h => by
    rw [forcesB_cons]
    by_cases e : l = lit
    · subst e
      rw [if_pos rfl, forcesB_iff]
      simp
    · rw [if_neg e]
      by_cases e2 : isFalseB f l = true
      · rw [if_pos e2, forcesB_iff]
        constructor
        · rintro ⟨h1, h2⟩
          refine ⟨?_, fun x hx hne => ?_⟩
          · rcases h1 with h1 | h1
            · exact .inl h1
            · exact .inr (by simp [h1])
          · rcases List.mem_cons.1 hx with rfl | hx
            · exact e2
            · exact h2 x hx hne
        · rintro ⟨h1, h2⟩
          refine ⟨?_, fun x hx hne => h2 x (by simp [hx]) hne⟩
          rcases h1 with h1 | h1
          · exact .inl h1
          · rcases List.mem_cons.1 h1 with rfl | h1
            · exact absurd rfl e
            · exact .inr h1
      · rw [if_neg e2]
        simp only [Bool.false_eq_true, false_iff, not_and]
        intro _ h2
        exact e2 (h2 l (by simp) e)

/-- marks that may be, up to a place -/
structure VI (f : Int → Option Int) (C : List (List Int)) (M : List S54) (k lv : Int) : Prop where
  rng : ∀ y i, f y = some i → 0 ≤ i ∧ i < k ∧ (rd_T54 M i).f0 = y
  back : ∀ i : Int, 0 ≤ i → i < k → f (rd_T54 M i).f0 = some i
  dec : ∀ i : Int, 0 ≤ i → i < k → (rd_T54 M i).f2 = -1 ∨ (0 ≤ (rd_T54 M i).f2 ∧ (rd_T54 M i).f2 < C.length ∧ (rd_T54 M i).f0 ∈ rd_L1 C (rd_T54 M i).f2 ∧
    ∀ l ∈ rd_L1 C (rd_T54 M i).f2, l ≠ (rd_T54 M i).f0 → ∃ j, f (neg l) = some j ∧ j < i)
  lev : ∀ i j : Int, 0 ≤ i → i ≤ j → j < k → (rd_T54 M i).f1 ≤ (rd_T54 M j).f1
  pos : ∀ i : Int, 0 ≤ i → i < k → 0 ≤ (rd_T54 M i).f1 ∧ (rd_T54 M i).f1 ≤ lv
  new : ∀ i : Int, 0 ≤ i → i < k → (rd_T54 M i).f2 = -1 → 0 < (rd_T54 M i).f1 ∧ ∀ j : Int, 0 ≤ j → j < i → (rd_T54 M j).f1 < (rd_T54 M i).f1
  lit : ∀ y i, f y = some i → atomOf y ≠ 0
  opp : ∀ y, (f y).isSome = true → (f (neg y)).isSome = false
  lev0 : 0 ≤ lv
  fy : ∀ y i, f y = some i → Fits y

theorem VI.start {C : List (List Int)} {M : List S54} : VI (fun _ => none) C M 0 0 :=
  ⟨fun y i h => (by cases h), fun i h0 h1 => (by omega), fun i h0 h1 => (by omega), fun i j h0 h1 h2 => (by omega), fun i h0 h1 => (by omega), fun i h0 h1 => (by omega), fun y i h => (by cases h), fun y h => by simp at h, Int.le_refl _, fun y i h => (by cases h)⟩

theorem neg_lit {y : Int} (hy : Fits y) (h : atomOf y ≠ 0) : y ≠ 0 ∧ y ≠ -9223372036854775808 ∧ neg y = -y := by
  have := fits_iff.1 hy
  unfold atomOf at h
  refine ⟨fun e => ?_, fun e => ?_, ?_⟩
  · subst e; simp at h
  · subst e; simp at h
  · unfold neg wrap64
    by_cases e : y = -9223372036854775808
    · subst e; simp at h
    · omega

theorem VI.step {f : Int → Option Int} {C : List (List Int)} {M : List S54} {k lev lev' : Int} {m : S54} (V : VI f C M k lev) (hk : 0 ≤ k) (hm : rd_T54 M k = m) (hfm : Fits m.f0) (ha : atomOf m.f0 ≠ 0) (hn : knownB f m.f0 = false)
    (hd : (m.f2 = -1 ∧ lev' = lev + 1) ∨ (m.f2 ≠ -1 ∧ lev' = lev ∧ 0 ≤ m.f2 ∧ m.f2 < C.length ∧ forcesB f m.f0 false (rd_L1 C m.f2) = true)) (hl : m.f1 = lev') : VI (upd f m.f0 k) C M (k + 1) lev' := by
  unfold knownB at hn
  simp only [Bool.or_eq_false_iff, Option.isSome_eq_false_iff, Option.isNone_iff_eq_none] at hn
  obtain ⟨hn1, hn2⟩ := hn
  have hl0 := V.lev0
  have hmono : ∀ y i, f y = some i → upd f m.f0 k y = some i := fun y i h => by
    unfold upd
    by_cases e : y = m.f0
    · subst e; rw [hn1] at h; cases h
    · rw [if_neg e]; exact h
  have hll : lev ≤ lev' := by rcases hd with ⟨_, h⟩ | ⟨_, h, _⟩ <;> omega
  obtain ⟨q1, q2, q3⟩ := neg_lit hfm ha
  refine ⟨fun y i h => ?_, fun i h0 h1 => ?_, fun i h0 h1 => ?_, fun i j h0 h1 h2 => ?_, fun i h0 h1 => ?_, fun i h0 h1 h2 => ?_, fun y i h => ?_, fun y h => ?_, (by omega), fun y i h => ?_⟩
  · unfold upd at h
    by_cases e : y = m.f0
    · rw [if_pos e] at h
      cases h
      exact ⟨hk, by omega, by rw [hm, e]⟩
    · rw [if_neg e] at h
      obtain ⟨a, b, c⟩ := V.rng y i h
      exact ⟨a, by omega, c⟩
  · by_cases e : i = k
    · subst e; rw [hm]; simp [upd]
    · exact hmono _ _ (V.back i h0 (by omega))
  · by_cases e : i = k
    · subst e
      rw [hm]
      rcases hd with ⟨h, _⟩ | ⟨_, _, h2, h3, h4⟩
      · exact .inl h
      · right
        obtain ⟨h5, h6⟩ := forcesB_iff.1 h4
        refine ⟨h2, h3, by simpa using h5, fun l hl hne => ?_⟩
        have h7 := h6 l hl hne
        unfold isFalseB at h7
        split at h7
        · cases h7
        · obtain ⟨j, hj⟩ := Option.isSome_iff_exists.1 h7
          exact ⟨j, hmono _ _ hj, (V.rng _ _ hj).2.1⟩
    · rcases V.dec i h0 (by omega) with h | ⟨h2, h3, h4, h5⟩
      · exact .inl h
      · refine .inr ⟨h2, h3, h4, fun l hl hne => ?_⟩
        obtain ⟨j, hj, hlt⟩ := h5 l hl hne
        exact ⟨j, hmono _ _ hj, hlt⟩
  · by_cases e : j = k
    · subst e
      by_cases e2 : i = j
      · subst e2; omega
      · have := (V.pos i h0 (by omega)).2
        rw [hm]; omega
    · exact V.lev i j h0 h1 (by omega)
  · by_cases e : i = k
    · subst e; rw [hm]; omega
    · have := V.pos i h0 (by omega); omega
  · by_cases e : i = k
    · subst e
      rw [hm] at h2 ⊢
      rcases hd with ⟨_, h⟩ | ⟨h, _⟩
      · refine ⟨by omega, fun j h3 h4 => ?_⟩
        have := (V.pos j h3 h4).2
        omega
      · exact absurd h2 h
    · exact V.new i h0 (by omega) h2
  · unfold upd at h
    by_cases e : y = m.f0
    · rw [e]; exact ha
    · rw [if_neg e] at h; exact V.lit y i h
  · unfold upd at h ⊢
    by_cases e : y = m.f0
    · subst e
      rw [if_neg (by omega), hn2]; rfl
    · rw [if_neg e] at h
      by_cases e2 : neg y = m.f0
      · exfalso
        obtain ⟨i, hi⟩ := Option.isSome_iff_exists.1 h
        obtain ⟨_, _, r3⟩ := neg_lit (V.fy y i hi) (V.lit y i hi)
        have : y = neg m.f0 := by omega
        rw [this, hn2] at hi
        cases hi
      · rw [if_neg e2]; exact V.opp y h
  · unfold upd at h
    by_cases e : y = m.f0
    · rw [e]; exact hfm
    · rw [if_neg e] at h; exact V.fy y i h
theorem VI.load {C : List (List Int)} {M : List S54} (hfM : ∀ m ∈ M, Fits m.f0) : ∀ (n k : Nat) (lv : Int) (f g : Int → Option Int), n + k = M.length → VI f C M k lv → loadF C (M.drop k) k lv f = some g → ∃ lv', VI g C M M.length lv'
  | 0, k, lv, f, g, hn, V, h => by
    rw [List.drop_eq_nil_of_le (by omega)] at h
    cases h
    have : k = M.length := by omega
    subst this
    exact ⟨lv, V⟩
  | n + 1, k, lv, f, g, hn, V, h => by
    have hlt : k < M.length := by omega
    rw [drop_T54 hlt, loadF_cons] at h
    have hfm := hfM _ (rd_T54_mem hlt)
    obtain ⟨m, hm⟩ : ∃ m, m = rd_T54 M (k : Int) := ⟨_, rfl⟩
    rw [← hm] at h hfm
    by_cases ca : atomOf m.f0 = 0
    · rw [if_pos ca] at h; cases h
    rw [if_neg ca] at h
    by_cases cb : knownB f m.f0 = true
    · rw [if_pos cb] at h; cases h
    rw [if_neg cb] at h
    have hn1 : n + (k + 1) = M.length := by omega
    have hc : ((k + 1 : Nat) : Int) = (k : Int) + 1 := by omega
    by_cases cd : m.f2 = -1
    · rw [if_pos cd] at h
      by_cases cl : m.f1 = lv + 1
      · rw [if_pos cl] at h
        exact VI.load hfM n (k + 1) (lv + 1) _ g hn1 (by rw [hc]; exact V.step (by omega) hm.symm hfm ca (by simpa using cb) (.inl ⟨cd, rfl⟩) cl) (by rw [hc]; exact h)
      · rw [if_neg cl] at h; cases h
    rw [if_neg cd] at h
    by_cases cn : m.f2 < 0
    · rw [if_pos cn] at h; cases h
    rw [if_neg cn] at h
    by_cases cg : (C.length : Int) ≤ m.f2
    · rw [if_pos cg] at h; cases h
    rw [if_neg cg] at h
    by_cases cf : forcesB f m.f0 false (rd_L1 C m.f2) = true
    · rw [if_pos cf] at h
      by_cases cl : m.f1 = lv
      · rw [if_pos cl] at h
        exact VI.load hfM n (k + 1) lv _ g hn1 (by rw [hc]; exact V.step (by omega) hm.symm hfm ca (by simpa using cb) (.inr ⟨cd, rfl, by omega, by omega, cf⟩) cl) (by rw [hc]; exact h)
      · rw [if_neg cl] at h; cases h
    · rw [if_neg cf] at h; cases h
theorem loadF_VI {C : List (List Int)} {M : List S54} {f : Int → Option Int} (hfM : ∀ m ∈ M, Fits m.f0) (h : loadF C M 0 0 (fun _ => none) = some f) : ∃ lv, VI f C M M.length lv :=
  VI.load hfM M.length 0 0 _ f (by omega) VI.start h
theorem VI.vd {f : Int → Option Int} {C : List (List Int)} {M : List S54} {lv : Int} (V : VI f C M M.length lv) (hfC : ∀ c ∈ C, ∀ x ∈ c, Fits x) : Vd f C M :=
  ⟨V.rng, V.dec, V.lev, fun i h0 h1 => (V.pos i h0 h1).1, V.new, hfC⟩
theorem VI.places {f : Int → Option Int} {C : List (List Int)} {M : List S54} {lv : Int} (V : VI f C M M.length lv) (hM : M.length ≤ 1099511627776) : Places f :=
  ⟨fun a b c ha hb => by rw [← (V.rng a c ha).2.2, ← (V.rng b c hb).2.2], fun a c h => (V.rng a c h).1, fun a c h => by have := (V.rng a c h).2.1; omega⟩
end Go.Proofs.Ytjjlcnjhmkackaa.T
set_option linter.unusedVariables false
set_option linter.unusedSimpArgs false
namespace Go.Proofs.Ytjjlcnjhmkackaa.T
open Go.MapII Go.RowKit Go.Proofs.Ytjjlcnjhmkackaa.PA

def insL (f : Int → Option Int) : List Int → List Int → List Int
  | F, [] => F
  | F, l :: c => insL f (insF f l F) c
theorem insL_snoc {f : Int → Option Int} {l : Int} : ∀ {c F : List Int}, insL f F (c ++ [l]) = insF f l (insL f F c)
  | [], F => rfl
  | x :: c, F => by simp only [List.cons_append, insL]; exact insL_snoc
theorem mem_insL {f : Int → Option Int} {z : Int} : ∀ {c F : List Int}, z ∈ insL f F c ↔ z ∈ F ∨ z ∈ c
  | [], F => by simp [insL]
  | l :: c, F => by
    unfold insL
    rw [mem_insL, mem_insF]
    simp only [List.mem_cons]
    constructor
    · rintro ((h | h) | h) <;> simp [h]
    · rintro (h | h | h) <;> simp [h]
theorem Fall.insL {f : Int → Option Int} (hP : Places f) : ∀ {c F : List Int}, Fall f F → (∀ x ∈ c, (f (neg x)).isSome = true) → (∀ x ∈ c, Fits x) → Fall f (insL f F c)
  | [], F, h, _, _ => h
  | l :: c, F, h, h1, h2 => by
    unfold T.insL
    exact Fall.insL hP (h.ins hP (h1 l (by simp)) (h2 l (by simp))) (fun x hx => h1 x (by simp [hx])) (fun x hx => h2 x (by simp [hx]))
theorem isFalseB_some {f : Int → Option Int} {x : Int} (h : isFalseB f x = true) : (f (neg x)).isSome = true := by
  unfold isFalseB at h
  split at h
  · cases h
  · exact h

def topP (f : Int → Option Int) : List Int → Nat
  | [] => 0
  | x :: _ => (pl f x).toNat + 1
def firstG (f : Int → Option Int) (C : List (List Int)) (M : List S54) : Nat → List Int → List Int × List Int
  | 0, F => (F, [])
  | n + 1, F => match topF f M F with
    | x :: _ :: _ => ((firstG f C M n (resF f C M F x)).1, (Mk f M x).f2 :: (firstG f C M n (resF f C M F x)).2)
    | _ => (F, [])
def firstF (f : Int → Option Int) (C : List (List Int)) (M : List S54) (conflict : Int) : Option (List Int × Int × List Int) :=
  if conflict < 0 then none
  else if C.length ≤ conflict then none
  else if (rd_L1 C conflict).all (isFalseB f) = false then none
  else if mostF f M (insL f [] (rd_L1 C conflict)) = 0 then none
  else
    let r := firstG f C M M.length (insL f [] (rd_L1 C conflict))
    let s := cleanG f C M M.length r.1
    let x := (topF f M r.1).headD 0
    some (x :: restF x s.1, backF f M (restF x s.1), conflict :: (r.2 ++ s.2))

section
variable {f : Int → Option Int} {C : List (List Int)} {M : List S54} {F : List Int} {x y : Int} {t : List Int}
theorem topF_cons : topF f M (x :: t) = x :: t.filter (fun z => lvl f M z == lvl f M x) := by
  unfold topF mostF
  rw [List.filter_cons]
  simp
theorem topF_nil : topF f M [] = [] := rfl
theorem topP_le (V : Vd f C M) (hF : Fall f F) : topP f F ≤ M.length := by
  cases F with
  | nil => simp [topP]
  | cons x t =>
    have := V.at (hF.isf x (by simp))
    simp only [topP]; omega
theorem Vd.first_step (V : Vd f C M) (hP : Places f) (hF : Fall f F) (h : topF f M F = x :: y :: t) :
    x ∈ F ∧ (f (neg x)).isSome = true ∧ (Mk f M x).f2 ≠ -1 ∧ Fall f (resF f C M F x) ∧ topP f (resF f C M F x) < topP f F ∧ mostF f M (resF f C M F x) = mostF f M F ∧ resF f C M F x ≠ [] ∧ lvl f M x = mostF f M F := by
  cases F with
  | nil => rw [topF_nil] at h; cases h
  | cons z r =>
    rw [topF_cons] at h
    injection h with h1 h2
    subst h1
    have hyr : y ∈ r.filter (fun w => lvl f M w == lvl f M z) := by rw [h2]; simp
    obtain ⟨hy, hyl⟩ := List.mem_filter.1 hyr
    have hyl : lvl f M y = lvl f M z := by simpa using hyl
    have hzy := (List.pairwise_cons.1 hF.sorted).1 y hy
    have hx := hF.isf z (by simp)
    have hyf := hF.isf y (by simp [hy])
    have hr : (Mk f M z).f2 ≠ -1 := by
      intro e
      obtain ⟨_, a2, a3, a4, _⟩ := V.at hx
      obtain ⟨_, b2, b3, b4, _⟩ := V.at hyf
      rw [a4] at e
      have := (V.new _ a2 a3 e).2 _ b2 hzy
      unfold lvl at hyl
      rw [a4, b4] at hyl
      omega
    have hF1 := V.resF_fall hP hF hx hr
    have hne : y ≠ z := fun e => by subst e; omega
    have hym : y ∈ resF f C M (z :: r) z := mem_resF.2 (.inl ⟨by simp [hy], hne⟩)
    have hbelow : ∀ u ∈ resF f C M (z :: r) z, pl f u < pl f z := by
      intro u hu
      rcases V.resF_mem hx hr hu with ⟨h1, h2⟩ | ⟨_, h2⟩
      · rcases List.mem_cons.1 h1 with rfl | h1
        · exact absurd rfl h2
        · exact (List.pairwise_cons.1 hF.sorted).1 u h1
      · exact h2
    refine ⟨by simp, hx, hr, hF1, ?_, ?_, fun e => by rw [e] at hym; simp at hym, rfl⟩
    · cases e : resF f C M (z :: r) z with
      | nil => simp [topP]
      | cons u v =>
        have h1 := hbelow u (by rw [e]; simp)
        have := hP.pl_bd u
        simp only [topP]; omega
    · cases e : resF f C M (z :: r) z with
      | nil => rw [e] at hym; simp at hym
      | cons u v =>
        show lvl f M u = lvl f M z
        rw [e] at hF1 hym hbelow
        have hu := hF1.isf u (by simp)
        have h1 := V.lvl_mono hu hx (by have := hbelow u (by simp); omega)
        have h2 : pl f y ≤ pl f u := by
          rcases List.mem_cons.1 hym with rfl | h
          · omega
          · have := (List.pairwise_cons.1 hF1.sorted).1 y h; omega
        have h3 := V.lvl_mono hyf hu h2
        omega
theorem firstG_two {n : Nat} (h : topF f M F = x :: y :: t) : firstG f C M (n + 1) F = ((firstG f C M n (resF f C M F x)).1, (Mk f M x).f2 :: (firstG f C M n (resF f C M F x)).2) := by
  rw [firstG]
  simp only [h]
theorem firstG_one {n : Nat} (h : (topF f M F).length ≤ 1) : firstG f C M n F = (F, []) := by
  cases n with
  | zero => rfl
  | succ n =>
    rw [firstG]
    split
    · rename_i x y t e
      rw [e] at h
      simp at h
    · rfl
theorem firstG_len (n : Nat) : ∀ {F : List Int}, (firstG f C M n F).2.length ≤ n := by
  induction n with
  | zero => intro F; simp [firstG]
  | succ n ih =>
    intro F
    unfold firstG
    split
    · rename_i x y t h
      have := ih (F := resF f C M F x)
      simp; omega
    · simp
/-- what the loop of First leaves -/
theorem Vd.firstG_spec (V : Vd f C M) (hP : Places f) : ∀ (n : Nat) {F : List Int}, Fall f F → F ≠ [] → topP f F ≤ n → Fall f (firstG f C M n F).1 ∧ (firstG f C M n F).1 ≠ [] ∧ mostF f M (firstG f C M n F).1 = mostF f M F ∧ (topF f M (firstG f C M n F).1).length = 1
  | 0, F, hF, hne, hn => by
    cases F with
    | nil => exact absurd rfl hne
    | cons x t => simp [topP] at hn
  | n + 1, F, hF, hne, hn => by
    unfold firstG
    split
    · rename_i x y t h
      obtain ⟨h1, h2, h3, h4, h5, h6, h7, h8⟩ := V.first_step hP hF h
      obtain ⟨k1, k2, k3, k4⟩ := V.firstG_spec hP n h4 h7 (by omega)
      exact ⟨k1, k2, k3.trans h6, k4⟩
    · rename_i h
      refine ⟨hF, hne, rfl, ?_⟩
      cases F with
      | nil => exact absurd rfl hne
      | cons x t =>
        rw [topF_cons] at h ⊢
        cases e : t.filter (fun z => lvl f M z == lvl f M x) with
        | nil => rfl
        | cons y r => rw [e] at h; exact absurd rfl (h x y r)
end
end Go.Proofs.Ytjjlcnjhmkackaa.T
