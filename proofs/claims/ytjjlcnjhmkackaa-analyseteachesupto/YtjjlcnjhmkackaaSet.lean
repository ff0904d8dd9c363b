/-
  What the inner functions of analyse over a set of literals (falling, top, resolve, clean, told, needless) answer. No condition but that trail and set lie as told.
-/
import Derived.Test.YtjjlcnjhmkackaaTrail
import Derived.Test.YtjjlcnjhmkackaaSort
import Derived.Deep.DeepMust
set_option linter.unusedVariables false
set_option linter.unusedSimpArgs false
namespace Go.Proofs.Ytjjlcnjhmkackaa.T
open Go.RowKit Go.Proofs.YtjjlcnjhmkackaaW.PrintWords Go.Proofs.YtjjlcnjhmkackaaW.PrintLast Go.Proofs.YtjjlcnjhmkackaaW.PrintMore
open Go.Proofs.Ytjjlcnjhmkackaa.PA Go.MapII Go.Proofs

/-- the place of a false literal's mark -/
def pl (f : Int → Option Int) (x : Int) : Int := (f (neg x)).getD 0

/-- the closure of falling -/
theorem fallingCmp_calls (bx sb tb pb n : Nat) (f : Int → Option Int) (a b : Int) (W : World) (ha : Fits a) (hb : Fits b) (h0 : W.cell? ⟨bx, 0, none⟩ = some (.pointer (some ⟨sb, 0, none⟩))) (h1 : W.cell? ⟨sb, 0, none⟩ = some (.pointer (some ⟨tb, 0, none⟩)))
    (h2 : W.cell? ⟨tb, 2, none⟩ = some (.map (some pb))) (hm : IM W pb n f) :
    Calls Try.prog 30 #[.int .i64 a, .int .i64 b, .pointer (some ⟨bx, 0, none⟩)] W fun e w' => e = .returned (.int .i64 (wrap64 (pl f b - pl f a))) ∧ ∃ q, w' = W.drewN q := by
  have la := look_at hm (neg a) (fits_wrap _)
  have lb := look_at hm (neg b) (fits_wrap _)
  unfold pl
  generalize (f (neg a)).getD 0 = pa at la ⊢
  generalize (f (neg b)).getD 0 = pb' at lb ⊢
  replace la : ∀ m : Nat, (Instr.lookup 44 (.map (some pb)) (.int .i64 (IntKind.i64.wrap (-a))) false).run Try.prog (W.drewN m) = .ok (.int .i64 pa) (W.drewN m) := by
    intro m; rw [wrap_eq]; exact la m
  replace lb : ∀ m : Nat, (Instr.lookup 44 (.map (some pb)) (.int .i64 (IntKind.i64.wrap (-b))) false).run Try.prog (W.drewN m) = .ok (.int .i64 pb') (W.drewN m) := by
    intro m; rw [wrap_eq]; exact lb m
  clear hm ha hb
  go_enter Try.func30, Try.ntmps30
  go_wp2
  refine Reg.still_all (by kernel_rfl) (by kernel_rfl) (fun nd => ?_)
  repeat still_step
  refine wpStill_nil ?_
  go_wp2
  go_ret
  exact ⟨by first | rfl | (rw [wrap_eq]; rfl), nd, rfl⟩

/-- the set of a list's literals, as the map holds it -/
def setF (F : List Int) : Int → Option Int := fun x => if x ∈ F then some 1 else none
theorem setF_some {F : List Int} {x : Int} : (setF F x).isSome = decide (x ∈ F) := by unfold setF; split <;> simp_all

/-- what is known of places -/
structure Places (f : Int → Option Int) : Prop where
  inj : ∀ a b c, f a = some c → f b = some c → a = b
  lo : ∀ a c, f a = some c → 0 ≤ c
  hi : ∀ a c, f a = some c → c ≤ 1099511627776
theorem Places.pl_bd {f : Int → Option Int} (h : Places f) (x : Int) : 0 ≤ pl f x ∧ pl f x ≤ 1099511627776 := by
  unfold pl
  cases e : f (neg x) with
  | none => simp
  | some c => exact ⟨h.lo _ _ e, h.hi _ _ e⟩

theorem neg_neg {x : Int} (h : Fits x) (hm : x ≠ -9223372036854775808) : neg (neg x) = x := by
  have := fits_iff.1 h
  unfold neg wrap64
  omega
theorem neg_inj {x y : Int} (hx : Fits x) (hy : Fits y) (h : neg x = neg y) : x = y := by
  have := fits_iff.1 hx
  have := fits_iff.1 hy
  unfold neg wrap64 at h
  omega

/-- literals that are false, by falling places -/
structure Fall (f : Int → Option Int) (F : List Int) : Prop where
  sorted : F.Pairwise (fun a b => pl f b < pl f a)
  isf : ∀ x ∈ F, (f (neg x)).isSome = true
  fits : ∀ x ∈ F, Fits x
theorem Fall.nodup {f : Int → Option Int} {F : List Int} (h : Fall f F) : F.Nodup := h.sorted.imp (fun {a b} hab e => by subst e; omega)
theorem pl_inj {f : Int → Option Int} (hP : Places f) {a b : Int} (ha : (f (neg a)).isSome = true) (hb : (f (neg b)).isSome = true) (fa : Fits a) (fb : Fits b) (h : pl f a = pl f b) : a = b := by
  obtain ⟨c, hc⟩ := Option.isSome_iff_exists.1 ha
  obtain ⟨d, hd⟩ := Option.isSome_iff_exists.1 hb
  unfold pl at h
  rw [hc, hd] at h
  simp at h
  subst h
  exact neg_inj fa fb (hP.inj _ _ _ hc hd)
/-- two lists of the same literals, each by falling places, are one -/
theorem Fall.unique {f : Int → Option Int} (hP : Places f) {F ys : List Int} (h : Fall f F) (hp : ys.Perm F) (hs : ys.Pairwise (fun a b => pl f b ≤ pl f a)) : ys = F := by
  refine List.Perm.eq_of_pairwise (le := fun a b => pl f b ≤ pl f a) ?_ hs (h.sorted.imp (fun {a b} hab => by omega)) hp
  intro a b ha hb h1 h2
  have ha' := hp.mem_iff.1 ha
  exact pl_inj hP (h.isf a ha') (h.isf b hb) (h.fits a ha') (h.fits b hb) (by omega)

abbrev FInt := {x : Int // Fits x}
instance : Inhabited FInt := ⟨⟨0, by decide⟩⟩
def encF (x : FInt) : Value := .int .i64 x.1
def cfF (f : Int → Option Int) (x y : FInt) : Int := wrap64 (pl f y.1 - pl f x.1)
theorem cfF_eq {f : Int → Option Int} (hP : Places f) (x y : FInt) : cfF f x y = pl f y.1 - pl f x.1 := by
  have := hP.pl_bd x.1
  have := hP.pl_bd y.1
  unfold cfF wrap64
  omega
theorem ltF {f : Int → Option Int} (hP : Places f) (x y : FInt) : ltOf (cfF f) x y = decide (pl f y.1 < pl f x.1) := by
  unfold ltOf
  rw [cfF_eq hP]
  exact decide_eq_decide.2 (by omega)
theorem swoF {f : Int → Option Int} (hP : Places f) : Go.Sort.SWO (ltOf (cfF f)) where
  irrefl x := by rw [ltF hP]; simp
  trans x y z h1 h2 := by rw [ltF hP] at *; simp at *; omega
  ntrans x y z h1 h2 := by rw [ltF hP] at *; simp at *; omega
def liftF (xs : List Int) (h : ∀ x ∈ xs, Fits x) : List FInt := xs.attach.map fun x => ⟨x.1, h x.1 x.2⟩
theorem liftF_val (xs : List Int) (h : ∀ x ∈ xs, Fits x) : (liftF xs h).map (·.1) = xs := by simp [liftF, List.map_map, Function.comp_def]
theorem liftF_enc (xs : List Int) (h : ∀ x ∈ xs, Fits x) : (liftF xs h).map encF = nums .i64 xs := by
  have : (liftF xs h).map encF = ((liftF xs h).map (·.1)).map (Value.int .i64) := by simp [encF, List.map_map, Function.comp_def]
  rw [this, liftF_val]; rfl
theorem liftF_length (xs : List Int) (h : ∀ x ∈ xs, Fits x) : (liftF xs h).length = xs.length := by simp [liftF]
theorem enc_vals (ys : List FInt) : ys.map encF = nums .i64 (ys.map (·.1)) := by simp [encF, nums, List.map_map, Function.comp_def]

/-- what the sort of falling leaves -/
theorem done_fall {f : Int → Option Int} (hP : Places f) {F xs : List Int} (hF : Fall f F) (hx : ∀ x ∈ xs, Fits x) (hp : xs.Perm F) {base : Nat} {e : TypeId} {v : Value} {w w' : World} (h : Srt.Done encF (cfF f) base e v (liftF xs hx) w w') :
    w'.ownsRow base e 1 v F.length (nums .i64 F) ∧ w.grownBy w' v.ownBlock := by
  obtain ⟨ys, h1, h2, h3, h4⟩ := h
  have e1 : ys.map (·.1) = F := by
    refine hF.unique hP ?_ ?_
    · have := h1.map (·.1); rw [liftF_val] at this; exact this.trans hp
    · rw [List.pairwise_map]
      refine h2.imp fun {a b} hab => ?_
      rw [ltF hP] at hab
      simp at hab
      exact hab
  rw [enc_vals, e1] at h3
  have hl : ys.length = F.length := by rw [← e1]; simp
  rw [hl] at h3
  exact ⟨h3, h4⟩

theorem own_mono {w : World} {b b' : Nat} {e : TypeId} {sz n : Nat} {v : Value} {xs : List Value} (h : w.ownsRow b e sz v n xs) (hb : b' ≤ b) : w.ownsRow b' e sz v n xs := by
  obtain ⟨h1, h2 | ⟨g, cap, cur, hv, hg, r⟩⟩ := h
  · exact ⟨h1, .inl h2⟩
  · exact ⟨h1, .inr ⟨g, cap, cur, hv, by omega, r⟩⟩
def Coll (F : List Int) (left : Int → Bool) (xs : List Int) : Prop := xs.Nodup ∧ ∀ z, z ∈ xs ↔ z ∈ F ∧ left z = false
theorem Coll.step {F : List Int} {left : Int → Bool} {xs : List Int} (h : Coll F left xs) {x : Int} (hx : x ∈ F) (hl : left x = true) : Coll F (fun z => left z && !decide (z = x)) (xs ++ [x]) := by
  obtain ⟨h1, h2⟩ := h
  have hn : x ∉ xs := fun hm => by have := ((h2 x).1 hm).2; rw [hl] at this; cases this
  refine ⟨List.nodup_append.2 ⟨h1, by simp, fun a ha b hb => by simp at hb; subst hb; exact fun e => hn (e ▸ ha)⟩, fun z => ?_⟩
  by_cases e : z = x
  · subst e; simp [hx]
  · simp [h2 z, e]
theorem Coll.len {F : List Int} {left : Int → Bool} {xs : List Int} (h : Coll F left xs) : xs.length ≤ F.length := h.1.length_le_of_subset fun z hz => ((h.2 z).1 hz).1
theorem Coll.perm {F : List Int} {left : Int → Bool} {xs : List Int} (h : Coll F left xs) (hF : F.Nodup) (hl : ∀ x, left x = false) : xs.Perm F := (List.perm_ext_iff_of_nodup h.1 hF).2 fun z => by simp [h.2 z, hl]

theorem own_ne {w : World} {base : Nat} {e : TypeId} {size n : Nat} {v : Value} {xs : List Value} (h : w.ownsRow base e size v n xs) {k : Nat} (hk : k < base) : some k ≠ v.ownBlock := fun e => by have := own_base h k e.symm; omega
theorem cell_same {w W : World} {a : Addr} {v : Value} (h : w.cell? a = some v) (hb : W.heap[a.block]? = w.heap[a.block]?) : W.cell? a = some v := (World.cell?_of_block (w := w) hb).trans h
theorem falling_sort (bx sb tb pb nP base : Nat) (f : Int → Option Int) (F xs : List Int) (v : Value) (wr : World) (h0 : wr.cell? ⟨bx, 0, none⟩ = some (.pointer (some ⟨sb, 0, none⟩))) (h1 : wr.cell? ⟨sb, 0, none⟩ = some (.pointer (some ⟨tb, 0, none⟩)))
    (h2 : wr.cell? ⟨tb, 2, none⟩ = some (.map (some pb))) (hm : IM wr pb nP f) (hown : wr.ownsRow base 3 1 v xs.length (nums .i64 xs)) (hbx : bx < base) (hsb : sb < base) (htb : tb < base) (hpb : pb < base)
    (hF : Fall f F) (hP : Places f) (hp : xs.Perm F) (hlen : F.length ≤ 1099511627776) :
    Calls Try.prog 29 #[v, .func (.func 30) #[] #[.pointer (some ⟨bx, 0, none⟩)]] wr fun e w' => e = .returned (.tuple #[]) ∧ w'.ownsRow base 3 1 v F.length (nums .i64 F) ∧ wr.grownBy w' v.ownBlock := by
  have hx : ∀ x ∈ xs, Fits x := fun x hx => hF.fits x (hp.mem_iff.1 hx)
  have hne : ∀ k, k < base → v.ownBlock ≠ some k := fun k hk e => by have := own_base hown k e; omega
  have eg : ∀ args w, (callFunc 30 args).run Try.prog w = .ok (.enter 30 args) w := enters_of Try.func30 (by kernel_rfl) rfl
  have hc : Srt.Cmp encF (cfF f) 30 #[.pointer (some ⟨bx, 0, none⟩)] wr v := by
    intro W hW x y
    have b1 := hW bx (World.block_lt_of_cell? wr _ h0) (hne _ hbx)
    have b2 := hW sb (World.block_lt_of_cell? wr _ h1) (hne _ hsb)
    have b3 := hW tb (World.block_lt_of_cell? wr _ h2) (hne _ htb)
    have b4 := hW pb (MapII.lt hm) (hne _ hpb)
    exact fallingCmp_calls bx sb tb pb nP f x.1 y.1 W x.2 y.2 (cell_same h0 b1) (cell_same h1 b2) (cell_same h2 b3) (MapII.of_block hm b4)
  have hl : xs.length = F.length := hp.length_eq
  refine (Srt.sort29 encF (fun _ => rfl) (cfF f) (swoF hP) 30 #[.pointer (some ⟨bx, 0, none⟩)] base 3 v (liftF xs hx) wr (by rw [liftF_enc, liftF_length]; exact hown) eg (by rw [liftF_length]; omega) hc).mono ?_
  rintro e w' ⟨rfl, hd⟩
  exact ⟨rfl, done_fall hP hF hx hp hd⟩

set_option maxRecDepth 100000 in
/-- (*set).falling -/
theorem falling_calls (sb tb mb pb n nP : Nat) (f : Int → Option Int) (F : List Int) (w : World) (s0 : w.cell? ⟨sb, 0, none⟩ = some (.pointer (some ⟨tb, 0, none⟩))) (s1 : w.cell? ⟨sb, 1, none⟩ = some (.map (some mb)))
    (t2 : w.cell? ⟨tb, 2, none⟩ = some (.map (some pb))) (hm : IM w pb nP f) (hs : IM w mb n (setF F)) (hF : Fall f F) (hP : Places f) (hlen : F.length ≤ 1099511627776) :
    Calls Try.prog 20 #[.pointer (some ⟨sb, 0, none⟩)] w fun e w' => ∃ v, e = .returned v ∧ w'.ownsRow w.heap.size 3 1 v F.length (nums .i64 F) ∧ Below w.heap.size w w' := by
  have hsb : sb < w.heap.size := World.block_lt_of_cell? w _ s0
  have htb : tb < w.heap.size := World.block_lt_of_cell? w _ t2
  have hmb : mb < w.heap.size := MapII.lt hs
  have hpb : pb < w.heap.size := MapII.lt hm
  have HM := Aside0.mk hm
  have HS := Aside0.mk hs
  have HF := Aside0.mk hF
  have HP := Aside0.mk hP
  have T2 := Aside0.mk t2
  have S0 := Aside0.mk s0
  clear hm hs hF hP t2
  go_enter Try.func20, Try.ntmps20
  go_wp2_with (first | (at_range; refine wp_range _ rfl _ 44 rfl 3 3 Try.underlying44 Try.underlying3 mb n (setF F) rfl (MapII.alloc HS.out _) ?_; intro w0 cnt0 hr0 hg0 hs0 hc0))
  go_frame
  have HB0 : Aside0 (Below w.heap.size w w0) := ⟨(below_alloc (Below.refl _ _) _).grown hg0 (by simp) (by simp)⟩
  have HX0 : Aside0 (w0.cell? ⟨w.heap.size, 0, none⟩ = some (.pointer (some ⟨sb, 0, none⟩))) := ⟨by rw [World.cell?_of_block (w := w.alloc (.cells #[.pointer (some ⟨sb, 0, none⟩)] 43)) (hg0.block _ (by simp) (by simp))]; simp⟩
  have HZ0 : Aside0 (w.heap.size + 2 ≤ w0.heap.size) := ⟨by rw [hs0]; simp⟩
  replace hr0 : MapII.Ranges Try.prog 3 3 w0 mb (w.heap.size + 1) n (setF F) (fun x => decide (Fits x) && (setF F x).isSome) cnt0 := by simpa using hr0
  have HR0 := Aside0.mk hr0
  clear hr0 hg0 hs0 hc0
  simp only [World.size_alloc]
  go_loopw [3, 4] (fun v _ wr => ∃ (xs : List Int) (left : Int → Bool) (cnt : Nat), Aside0 (MapII.Ranges Try.prog 3 3 wr mb (w.heap.size + 1) n (setF F) left cnt) ∧ Aside0 (wr.ownsRow (w.heap.size + 2) 3 1 v xs.length (nums .i64 xs)) ∧ Aside0 (Coll F left xs) ∧ Aside0 (Below w.heap.size w wr) ∧ Aside0 (wr.cell? ⟨w.heap.size, 0, none⟩ = some (.pointer (some ⟨sb, 0, none⟩))) ∧ Aside0 (w.heap.size + 2 ≤ wr.heap.size)) (fun _ _ wr => wr.rangeLeft mb (w.heap.size + 1))
  case atStart => exact ⟨[], _, _, HR0, ⟨own_nil _ _ _ _⟩, ⟨⟨List.nodup_nil, fun z => by
    simp only [List.not_mem_nil, false_iff, not_and]
    intro hz
    have := HF.out.fits z hz
    simp [setF_some, hz, this]⟩⟩, HB0, HX0, HZ0⟩
  case round =>
    obtain ⟨xs, left, cnt, HR, HO, HC, HB, HX, HZ⟩ := hrel
    have hxl : xs.length ≤ 1099511627776 := Nat.le_trans HC.out.len hlen
    go_wp2_with (first
      | (at_next; refine wp_next _ rfl _ rfl 3 3 Try.underlying3 Try.underlying3 mb (w.heap.size + 1) n (setF F) left cnt rfl HR.out (fun hc0 hl0 => ?_) (fun x c w1 cnt1 hx hlx hfx hr1 hlt hg1 hs1 hen => ?_) <;> first | (have HL := Aside0.mk hl0; clear hc0 hl0; skip) | (have HR1 := Aside0.mk hr1; have HLT := Aside0.mk hlt; have HFX := Aside0.mk hfx; have HLX := Aside0.mk hlx; have HG1 := Aside0.mk hg1; have HS1 := Aside0.mk hs1; have HFT := Aside0.mk hx; clear hr1 hlt hfx hlx hg1 hs1 hx; skip))
      | (at_builtin; go_must (refine print_append_num (w0 := w1) (w.heap.size + 2) rfl (.tmp 14) (.tmp 16) 26 3 .i64 8 rfl Try.underlying26 info3 (by decide) u3 xs x rfl rfl (HO.out.kept HG1.out (.inr (own_ne HO.out (by omega)).symm)) (Below.refl _ _) (by rw [HS1.out]; exact HZ.out) (by omega) ?_); intro v1 w2 ho2 hb2 hg2 hat2))
    · refine (falling_sort (w.heap.size) sb tb pb nP (w.heap.size + 2) f F xs u3 wr HX.out ((HB.out.cell (p := ⟨sb, 0, none⟩) hsb).trans S0.out) ((HB.out.cell (p := ⟨tb, 2, none⟩) htb).trans T2.out) (MapII.of_block HM.out (HB.out.block _ hpb)) HO.out (by omega) (by omega) (by omega) (by omega) HF.out HP.out (HC.out.perm HF.out.nodup HL.out) hlen).mono ?_
      rintro e w2 ⟨rfl, ho2, hg2⟩
      go_wp2
      go_ret
      exact ⟨_, rfl, own_mono ho2 (by omega), HB.out.grown hg2 HB.out.size (fun k hk => by have := own_base HO.out k hk; omega)⟩
    · have hne := fun k (hk : k < w.heap.size + 2) => own_ne HO.out hk
      have hB1 : Below w.heap.size w w1 := HB.out.grown HG1.out HB.out.size (fun k hk => by cases hk; omega)
      have hB2 : Below w.heap.size w w2 := hB1.grown hg2 hB1.size (fun k hk => by have := own_base HO.out k hk; omega)
      have hXF : x ∈ F := by
        have := HFX.out
        unfold setF at this
        split at this
        · assumption
        · cases this
      go_roundw
      case rel => exact ⟨xs ++ [x], _, cnt1, ⟨HR1.out.kept hg2 (hne mb (by omega)) (hne _ (by omega))⟩, ⟨ho2⟩, ⟨HC.out.step hXF HLX.out⟩, ⟨hB2⟩, ⟨cell_same HX.out ((hg2.block _ (by rw [HS1.out]; exact (World.block_lt_of_cell? wr _ HX.out)) (hne w.heap.size (by omega))).trans (HG1.out.block _ (World.block_lt_of_cell? wr _ HX.out) (by simp)))⟩, ⟨by have := hg2.size; have := HS1.out; have := HZ.out; omega⟩⟩
      case measure =>
        have h1 := (HR1.out.kept hg2 (hne mb (by omega)) (hne _ (by omega))).left_eq
        have h2 := HR.out.left_eq
        have := HLT.out
        rw [h1, h2]; exact this
end Go.Proofs.Ytjjlcnjhmkackaa.T
