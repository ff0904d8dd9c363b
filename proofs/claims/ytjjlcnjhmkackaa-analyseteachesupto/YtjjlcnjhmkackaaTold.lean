/-
  What told of analyse answers. No condition but that trail and set lie as told.
-/
import Derived.Test.YtjjlcnjhmkackaaTop
import Derived.Test.YtjjlcnjhmkackaaInv
import Derived.Test.YtjjlcnjhmkackaaShelf
set_option linter.unusedVariables false
set_option linter.unusedSimpArgs false
namespace Go.Proofs.Ytjjlcnjhmkackaa.T
open Go.RowKit Go.Proofs.YtjjlcnjhmkackaaW.PrintWords Go.Proofs.YtjjlcnjhmkackaaW.PrintLast Go.Proofs.YtjjlcnjhmkackaaW.PrintMore
open Go.Proofs.Ytjjlcnjhmkackaa.PA Go.MapII Go.Proofs

/-- slices.Clone of a slice that is read -/
theorem clone_calls {w : World} {A : Option Addr} {n c : Nat} {xs : List Int} (h : ReadsInt w .i64 A n xs) (hb : n * 8 ≤ 140737488355328) :
    Calls Try.prog 28 #[.slice A n c] w fun e w' => ∃ v, e = .returned v ∧ w'.ownsRow w.heap.size 3 1 v n (nums .i64 xs) ∧ Below w.heap.size w w' := by
  obtain ⟨hl, hm, hc⟩ := h
  rcases A with _ | ad
  · have h0 : n = 0 := by
      rcases Nat.eq_zero_or_pos n with h0 | h0
      · exact h0
      · obtain ⟨ad, e, _⟩ := hc h0; cases e
    subst h0
    obtain rfl : xs = [] := List.eq_nil_of_length_eq_zero hl
    refine (Try.slices_Clone_int_nil 0 c w).mono ?_
    rintro e w' ⟨rfl, rfl⟩
    exact ⟨_, rfl, own_nil _ _ _ _, Below.refl _ _⟩
  · rcases Nat.eq_zero_or_pos n with h0 | h0
    · subst h0
      obtain rfl : xs = [] := List.eq_nil_of_length_eq_zero hl
      refine (Try.slices_Clone_int_zero ad c w).mono ?_
      rintro e w' ⟨v, rfl, h1, _, h2⟩
      exact ⟨_, rfl, h1, h2⟩
    · obtain ⟨ad', e, hc⟩ := hc h0
      cases e
      have hs : ad.spot = none := by
        have h1 := hc 0 h0
        have h2 : ad.add 0 = ad := by simp [Addr.add]
        rw [h2] at h1
        unfold World.cell? at h1
        split at h1
        · cases hsp : ad.spot with
          | none => rfl
          | some z => rw [hsp] at h1; simp at h1
        · cases h1
      obtain ⟨b, off, sp⟩ := ad
      simp only at hs
      subst hs
      refine (Try.slices_Clone_int b off n c xs w (by omega) hb (fun j hj => ?_)).mono ?_
      · have h1 := hc j (by omega)
        have h2 : (⟨b, off, none⟩ : Addr).add j = ⟨b, off + j, none⟩ := by unfold Addr.add; split <;> simp_all
        rwa [h2] at h1
      · rintro e w' ⟨v, rfl, h1, _, h2⟩
        refine ⟨_, rfl, ?_, h2⟩
        rw [List.take_of_length_le (by omega)] at h1
        exact h1

def backF (f : Int → Option Int) (M : List S54) (l : List Int) : Int := l.foldl (fun m x => max m (lvl f M x)) 0
def restF (first : Int) (F : List Int) : List Int := F.filter fun x => x != first

theorem row_ne_cells {W : World} {B n g : Nat} {e t : TypeId} {v : Value} {xs : List Value} {cs : Array Value} {fr : Nat × Nat} (h : W.ownsRow B e 1 v n xs) (hc : W.heap[g]? = some (.cells cs t fr)) (hne : e ≠ t) : v.ownBlock ≠ some g := by
  rcases h.2 with ⟨rfl, _⟩ | ⟨b, cap, cur, rfl, _, hh, _⟩
  · simp [Value.ownBlock]
  · intro e2
    have : b = g := by simpa [Value.ownBlock] using e2
    subst this
    rw [hc] at hh
    injection hh with hh
    injection hh with _ ht
    exact hne ht.symm
/-- what is learnt, in memory -/
structure LR (B : Nat) (w : World) (bL : Nat) (vC vN : Value) (xs : List Int) (back : Int) (ns : List Int) : Prop where
  hb : B ≤ bL
  c0 : w.cell? ⟨bL, 0, none⟩ = some vC
  c1 : w.cell? ⟨bL, 1, none⟩ = some (.int .i64 back)
  c2 : w.cell? ⟨bL, 2, none⟩ = some vN
  f0 : w.frozen? ⟨bL, 0, none⟩ = false
  f1 : w.frozen? ⟨bL, 1, none⟩ = false
  o0 : w.ownsRow B 3 1 vC xs.length (nums .i64 xs)
  o2 : w.ownsRow B 3 1 vN ns.length (nums .i64 ns)
  a0 : vC.ownBlock ≠ some bL
  a2 : vN.ownBlock ≠ some bL
  ac : vC.ownBlock ≠ vN.ownBlock

theorem ite_on {c : Bool} {X Y : Prop} (h : c = true) (hx : X) : if c = true then X else Y := by rw [if_pos h]; exact hx
theorem level_run {o : Oper} {ev : Operand → Value} {W : World} (x : Operand) (hop : o.op = .field 54 x 1) (m : S54) (hx : ev x = aggOf m) : (execOp ev o).run Try.prog W = .ok (.value (.int .i64 m.f1)) W := by
  unfold execOp
  rw [hop]
  simp only [hx, aggOf]
  kernel_rfl
theorem own_some {W : World} {B n : Nat} {e : TypeId} {v : Value} {xs : List Value} (h : W.ownsRow B e 1 v n xs) (hn : 0 < n) : ∃ g, v.ownBlock = some g := by
  rcases h.2 with ⟨_, h0⟩ | ⟨g, c, cu, rfl, _⟩
  · omega
  · exact ⟨g, rfl⟩
section
variable {B bL : Nat} {w w' : World} {vC vN v1 : Value} {xs ns : List Int} {back x : Int}
theorem LR.below (h : LR B w bL vC vN xs back ns) (hb : Below w.heap.size w w') : LR B w' bL vC vN xs back ns :=
  { h with
    c0 := pw_cell_below hb h.c0
    c1 := pw_cell_below hb h.c1
    c2 := pw_cell_below hb h.c2
    f0 := (hb.frozen (p := ⟨bL, 0, none⟩) (World.block_lt_of_cell? w _ h.c0)).trans h.f0
    f1 := (hb.frozen (p := ⟨bL, 1, none⟩) (World.block_lt_of_cell? w _ h.c1)).trans h.f1
    o0 := pw_own_below h.o0 hb
    o2 := pw_own_below h.o2 hb }
theorem LR.grown (h : LR B w bL vC vN xs back ns) (hg : w.grownBy w' vC.ownBlock) : w'.heap[bL]? = w.heap[bL]? := hg.block bL (World.block_lt_of_cell? w _ h.c0) (fun e => h.a0 e.symm)
theorem LR.push (h : LR B w bL vC vN xs back ns) (hg : w.grownBy w' vC.ownBlock) (ho : w'.ownsRow B 3 1 v1 (xs ++ [x]).length (nums .i64 (xs ++ [x]))) (hat : v1.ownBlock = vC.ownBlock ∨ ∃ b, v1.ownBlock = some b ∧ w.heap.size ≤ b) : LR B (w'.setCell ⟨bL, 0, none⟩ v1) bL v1 vN (xs ++ [x]) back ns := by
  have hb := h.grown hg
  have hlt : bL < w.heap.size := World.block_lt_of_cell? w _ h.c0
  have hs := grownBy_set w' ⟨bL, 0, none⟩ v1
  have ha : v1.ownBlock ≠ some bL := by
    rcases hat with e | ⟨b, e, hle⟩
    · rw [e]; exact h.a0
    · rw [e]; intro e2; injection e2 with e2; omega
  refine { hb := h.hb, c0 := World.cell?_setCell_same _ _ _ (cell_same h.c0 hb), c1 := ?_, c2 := ?_, f0 := ?_, f1 := ?_, o0 := ho.kept hs (.inr ha), o2 := (h.o2.kept hg (.inr fun e => h.ac e.symm)).kept hs (.inr h.a2), a0 := ha, a2 := h.a2, ac := ?_ }
  · rw [World.cell?_setCell_other _ _ _ _ (by simp)]; exact cell_same h.c1 hb
  · rw [World.cell?_setCell_other _ _ _ _ (by simp)]; exact cell_same h.c2 hb
  · rw [World.frozen?_setCell]; exact (World.frozen?_of_block (w := w) (a := ⟨bL, 0, none⟩) hb).trans h.f0
  · rw [World.frozen?_setCell]; exact (World.frozen?_of_block (w := w) (a := ⟨bL, 1, none⟩) hb).trans h.f1
  · rcases hat with e | ⟨b, e, hle⟩
    · rw [e]; exact h.ac
    · rw [e]; intro e2; have := own_lt h.o2 e2.symm; omega
theorem LR.setBack (h : LR B w bL vC vN xs back ns) (b : Int) : LR B (w.setCell ⟨bL, 1, none⟩ (.int .i64 b)) bL vC vN xs b ns := by
  have hs := grownBy_set w ⟨bL, 1, none⟩ (.int .i64 b)
  refine { h with c0 := ?_, c1 := World.cell?_setCell_same _ _ _ h.c1, c2 := ?_, f0 := ?_, f1 := ?_, o0 := h.o0.kept hs (.inr h.a0), o2 := h.o2.kept hs (.inr h.a2) }
  · rw [World.cell?_setCell_other _ _ _ _ (by simp)]; exact h.c0
  · rw [World.cell?_setCell_other _ _ _ _ (by simp)]; exact h.c2
  · rw [World.frozen?_setCell]; exact h.f0
  · rw [World.frozen?_setCell]; exact h.f1
end
theorem restF_snoc {first : Int} {F : List Int} {k : Nat} (h : k < F.length) : restF first (F.take (k + 1)) = restF first (F.take k) ++ (if rd F (k : Int) = first then [] else [rd F (k : Int)]) := by
  unfold restF
  rw [filter_take_snoc h]
  congr 1
  by_cases c : rd F (k : Int) = first
  · rw [if_pos c, if_neg (by simp [c])]
  · rw [if_neg c, if_pos (by simp [c])]
theorem backF_snoc {f : Int → Option Int} {M : List S54} {l : List Int} {x : Int} : backF f M (l ++ [x]) = max (backF f M l) (lvl f M x) := by simp [backF, List.foldl_append]

/-- what holds while the first statement of told runs, by what of it is done -/
structure TI (B : Nat) (W : World) (first : Int) (ah ac : List Int) (d1 d3 d8 d9 d10 : Bool) (v7 v11 v13 v18 v19 : Value) : Prop where
  h1 : d1 = true → W.ownsRow B 3 1 v11 1 (nums .i64 [first])
  h3 : d3 = true → d8 = false → W.ownsRow B 3 1 v13 ah.length (nums .i64 ah)
  h8 : d8 = true → W.ownsRow B 3 1 v18 ac.length (nums .i64 ac)
  h9 : d9 = true → v19 = .agg #[v11, .int .i64 0, v18]
  h10 : d10 = true → ∃ bL, v7 = .pointer (some ⟨bL, 0, none⟩) ∧ B ≤ bL ∧ W.heap[bL]? = some (.cells #[.slice none 0 0, .int .i64 0, .slice none 0 0] 29 (0, 0))
  p13 : d1 = true → d3 = true → d8 = false → v11.ownBlock ≠ v13.ownBlock
  p18 : d1 = true → d8 = true → v11.ownBlock ≠ v18.ownBlock
  i8 : d8 = true → d3 = true
  i9 : d9 = true → d1 = true ∧ d8 = true
section
variable {B : Nat} {W W' : World} {first : Int} {ah ac : List Int} {d1 d3 d8 d9 d10 : Bool} {v7 v11 v13 v18 v19 : Value}
theorem TI.below (h : TI B W first ah ac d1 d3 d8 d9 d10 v7 v11 v13 v18 v19) (hb : Below W.heap.size W W') : TI B W' first ah ac d1 d3 d8 d9 d10 v7 v11 v13 v18 v19 :=
  { h with
    h1 := fun a => pw_own_below (h.h1 a) hb
    h3 := fun a b => pw_own_below (h.h3 a b) hb
    h8 := fun a => pw_own_below (h.h8 a) hb
    h10 := fun a => by
      obtain ⟨bL, e, h1, h2⟩ := h.h10 a
      exact ⟨bL, e, h1, (hb.block _ (Array.getElem?_eq_some_iff.1 h2).1).trans h2⟩ }
theorem TI.set1 (h : TI B W first ah ac false d3 d8 d9 d10 v7 v11 v13 v18 v19) (hB : B ≤ W.heap.size) : TI B (W.alloc (.cells #[.int .i64 first] 3)) first ah ac true d3 d8 d9 d10 v7 (.slice (some ⟨W.heap.size, 0, none⟩) 1 1) v13 v18 v19 := by
  have k := h.below (below_alloc (Below.refl _ _) (.cells #[.int .i64 first] 3))
  exact { k with
    h1 := fun _ => own_lit W B 3 .i64 [first] hB (by simp)
    h9 := fun a => absurd (h.i9 a).1 (by simp)
    p13 := fun _ a b e => by have := own_lt (h.h3 a b) (b := W.heap.size) e.symm; omega
    p18 := fun _ a e => by have := own_lt (h.h8 a) (b := W.heap.size) e.symm; omega
    i9 := fun a => ⟨rfl, (h.i9 a).2⟩ }
theorem TI.set3 {v : Value} (h : TI B W first ah ac d1 false d8 d9 d10 v7 v11 v13 v18 v19) (hB : B ≤ W.heap.size) (hb : Below W.heap.size W W') (ho : W'.ownsRow W.heap.size 3 1 v ah.length (nums .i64 ah)) : TI B W' first ah ac d1 true d8 d9 d10 v7 v11 v v18 v19 := by
  have k := h.below hb
  exact { k with
    h3 := fun _ _ => own_mono ho hB
    p13 := fun a _ _ e => by
      obtain ⟨g, hg⟩ : ∃ g, v11.ownBlock = some g := by
        rcases (h.h1 a).2 with ⟨_, h0⟩ | ⟨g, c, cu, rfl, _⟩
        · omega
        · exact ⟨g, rfl⟩
      have h1 := own_lt (h.h1 a) hg
      have h2 := own_base ho g (by rw [← e, hg])
      omega
    i8 := fun _ => rfl }
theorem TI.set8 {v : Value} (h : TI B W first ah ac d1 true false d9 d10 v7 v11 v13 v18 v19) (hg : W.grownBy W' v13.ownBlock) (ho : W'.ownsRow B 3 1 v ac.length (nums .i64 ac)) (hat : v.ownBlock = v13.ownBlock ∨ ∃ b, v.ownBlock = some b ∧ W.heap.size ≤ b) :
    TI B W' first ah ac d1 true true d9 d10 v7 v11 v13 v v19 where
  h1 a := (h.h1 a).kept hg (.inr (h.p13 a rfl rfl))
  h3 _ b := by cases b
  h8 _ := ho
  h9 a := absurd (h.i9 a).2 (by simp)
  h10 a := by
    obtain ⟨bL, e, h1, h2⟩ := h.h10 a
    refine ⟨bL, e, h1, (hg.block _ (Array.getElem?_eq_some_iff.1 h2).1 (fun e2 => ?_)).trans h2⟩
    rcases (h.h3 rfl rfl).2 with ⟨rfl, _⟩ | ⟨g, cap, cur, rfl, _, hh, _⟩
    · simp [Value.ownBlock] at e2
    · have : bL = g := by simpa [Value.ownBlock] using e2
      subst this
      rw [h2] at hh
      injection hh with hh
      injection hh with _ ht
      exact absurd ht (by decide)
  p13 _ _ b := by cases b
  p18 a _ e := by
    rcases hat with e2 | ⟨b, e2, hle⟩
    · exact h.p13 a rfl rfl (e.trans e2)
    · have := own_lt (h.h1 a) (e.trans e2); omega
  i8 _ := rfl
  i9 a := ⟨(h.i9 a).1, rfl⟩
theorem TI.set9 (h : TI B W first ah ac true d3 true false d10 v7 v11 v13 v18 v19) : TI B W first ah ac true d3 true true d10 v7 v11 v13 v18 (.agg #[v11, .int .i64 0, v18]) :=
  { h with h9 := fun _ => rfl, i9 := fun _ => ⟨rfl, rfl⟩ }
theorem TI.set10 (h : TI B W first ah ac d1 d3 d8 d9 false v7 v11 v13 v18 v19) (hB : B ≤ W.heap.size) : TI B (W.alloc (.cells #[.slice none 0 0, .int .i64 0, .slice none 0 0] 29)) first ah ac d1 d3 d8 d9 true (.pointer (some ⟨W.heap.size, 0, none⟩)) v11 v13 v18 v19 :=
  { h.below (below_alloc (Below.refl _ _) _) with h10 := fun _ => ⟨_, rfl, hB, heap_alloc_new _ _⟩ }
end

set_option maxRecDepth 100000 in
/-- (*set).told -/
theorem told_calls {wB w : World} {sb mb tb pb nP : Nat} {Ac Am : Option Addr} {cc cm : Nat} {C : List (List Int)} {M : List S54} {f : Int → Option Int} {F : List Int} {cv : Value} {ch : List Int} (V : Vd f C M) (T : TR wB tb pb nP Ac cc Am cm C M f) (S : SetAt wB w sb mb tb F cv ch)
    (hF : Fall f F) (hM : M.length ≤ 1099511627776) (hch : ch.length ≤ 4398046511104) (first : Int) (hfirst : Fits first) (A : Option Addr) (c : Nat) (ah : List Int) (hA : ReadsInt w .i64 A ah.length ah) (hah : ah.length ≤ 4398046511104) :
    Calls Try.prog 16 #[.pointer (some ⟨sb, 0, none⟩), .int .i64 first, .slice A ah.length c] w fun e w' => ∃ vC vN, e = .returned (.agg #[vC, .int .i64 (backF f M (restF first F)), vN]) ∧
      w'.ownsRow w.heap.size 3 1 vC (first :: restF first F).length (nums .i64 (first :: restF first F)) ∧ w'.ownsRow w.heap.size 3 1 vN (ah ++ ch).length (nums .i64 (ah ++ ch)) ∧ vC.ownBlock ≠ vN.ownBlock ∧ Below w.heap.size w w' := by
  have hlen := hF.len V
  have VV := Aside0.mk V
  have TT := Aside0.mk T
  have SS := Aside0.mk S
  have HF := Aside0.mk hF
  have HA := Aside0.mk hA
  have s2 := S.s2
  have hsb : sb < w.heap.size := World.block_lt_of_cell? w _ s2
  have hmb : mb < w.heap.size := MapII.lt S.map
  clear S T hF V hA
  obtain ⟨ac, hac⟩ : ∃ ac, ac = ah ++ ch := ⟨_, rfl⟩
  have hal : ac.length ≤ 8796093022208 := by rw [hac]; simp; omega
  rw [← hac]
  have HAC := Aside0.mk hac
  clear hac
  go_enter Try.func16, Try.ntmps16
  go_wp2
  obtain ⟨wA, hwA⟩ : ∃ wA, wA = w.alloc (.cells #[.slice none 0 0, .int .i64 0, .slice none 0 0] 29) := ⟨_, rfl⟩
  rw [← hwA]
  have hB0 : Below w.heap.size w wA := by rw [hwA]; exact below_alloc (Below.refl _ _) _
  have hsz : wA.heap.size = w.heap.size + 1 := by rw [hwA]; simp
  have s2A := pw_cell_below hB0 s2
  have SA := Aside0.mk (SS.out.below hB0)
  obtain ⟨Ach, cch, hcv⟩ := own_slice SA.out.own
  have HRC : Aside0 (ReadsInt wA .i64 Ach ch.length ch) := ⟨by have h := SA.out.own; rw [hcv] at h; exact own_reads' h⟩
  subst hcv
  have HAA := Aside0.mk (HA.out.below hB0)
  have b6 : Aside0 (wA.heap[w.heap.size]? = some (.cells #[.slice none 0 0, .int .i64 0, .slice none 0 0] 29 (0, 0))) := ⟨by rw [hwA]; exact heap_alloc_new _ _⟩
  refine Reg.by_inv [0, 2, 4, 5, 6, 7] [(1, []), (3, []), (8, [3]), (9, [1, 8]), (10, [])] 5 [(11, true)] [11] #[true, false, true, false, true, true, true, true, false, false, false, false] #[true, true, true, true, true, true, true, true, true, true, true, false]
    (fun W => Below wA.heap.size wA W) (fun l a w' => ∃ (d1 d3 d8 d9 d10 : Bool) (v7 v11 v13 v18 v19 : Value), l = #[true, d1, true, d3, true, true, true, true, d8, d9, d10, false] ∧
      a = { tmps := List.toArray (.pointer (some ⟨sb, 0, none⟩) :: .int .i64 first :: .slice A ah.length c :: undef :: undef :: undef :: .pointer (some ⟨w.heap.size, 0, none⟩) :: v7 :: undef :: undef :: .int .i64 first :: v11 :: .slice A ah.length c :: v13 :: .pointer (some ⟨sb, 0, none⟩) :: .pointer (some ⟨sb, 0, none⟩) :: .pointer (some ⟨sb, 2, none⟩) :: .slice Ach ch.length cch :: v18 :: v19 :: undef :: undef :: undef :: undef :: undef :: undef :: undef :: undef :: undef :: undef :: undef :: undef :: undef :: undef :: undef :: undef :: undef :: undef :: undef :: undef :: undef :: undef :: undef :: undef :: undef :: undef :: undef :: undef :: undef :: []), defers := [] } ∧
      TI wA.heap.size w' first ah ac d1 d3 d8 d9 d10 v7 v11 v13 v18 v19) (by kernel_rfl) (by kernel_rfl) (fun _ _ d _ _ h => by cases d <;> exact h) ⟨rfl, rfl, rfl, Nat.le_refl _, fun _ _ => rfl⟩ ?_ ?_ ?_
  · iterate 6
      refine Reg.to_held (v := ?_) rfl rfl rfl ?_ ?_
      rotate_left
      · intro W hW
        have h1 := pw_cell_below hW s2A
        go_simp
        first | done | rfl
      go_frame
    refine Reg.to_nil ⟨false, false, false, false, false, _, _, _, _, _, rfl, rfl, ?_⟩
    exact ⟨by simp, by simp, by simp, by simp, by simp, by simp, by simp, by simp, by simp⟩
  · intro i D hmem l' a W hn hd hS hI
    obtain ⟨d1, d3, d8, d9, d10, v7, v11, v13, v18, v19, rfl, rfl, hT⟩ := hI
    have hsW := hS.size
    simp only [List.mem_cons, Prod.mk.injEq, List.not_mem_nil, or_false] at hmem
    rcases hmem with ⟨rfl, rfl⟩ | ⟨rfl, rfl⟩ | ⟨rfl, rfl⟩ | ⟨rfl, rfl⟩ | ⟨rfl, rfl⟩
    · obtain rfl : d1 = false := by simpa using hn
      refine ⟨_, rfl, fun K hK => ?_⟩
      refine ite_on rfl ?_
      go_simp
      refine hK _ _ (below_alloc hS _) ⟨true, d3, d8, d9, d10, v7, _, v13, v18, v19, rfl, rfl, hT.set1 hsW⟩
    · obtain rfl : d3 = false := by simpa using hn
      refine ⟨_, rfl, fun K hK => ?_⟩
      refine ite_on rfl ?_
      go_simp
      refine (clone_calls (HAA.out.below hS) (by omega)).mono ?_
      rintro e W' ⟨v, rfl, ho, hb⟩
      exact hK _ _ (hS.trans (hb.mono hsW)) ⟨d1, true, d8, d9, d10, v7, v11, _, v18, v19, rfl, rfl, hT.set3 hsW hb ho⟩
    · obtain rfl : d8 = false := by simpa using hn
      obtain rfl : d3 = true := by simpa using hd 3 (by simp)
      refine ⟨_, rfl, fun K hK => ?_⟩
      refine ite_on rfl ?_
      refine Reg.append_row_K wA.heap.size (.tmp 13) (.tmp 17) 26 3 .i64 8 rfl Try.underlying26 info3 (by decide) v13 ah ch Ach ch.length cch rfl rfl (hT.h3 rfl rfl) (HRC.out.below hS) hsW (by omega) ?_
      intro v1 W1 ho hg hat
      go_frame
      rw [← HAC.out] at ho
      exact hK _ _ (hS.grown hg hsW (own_base (hT.h3 rfl rfl))) ⟨d1, true, true, d9, d10, v7, v11, v13, _, v19, rfl, rfl, hT.set8 hg ho hat⟩
    · obtain rfl : d9 = false := by simpa using hn
      obtain rfl : d1 = true := by simpa using hd 1 (by simp)
      obtain rfl : d8 = true := by simpa using hd 8 (by simp)
      refine ⟨_, rfl, fun K hK => ?_⟩
      refine ite_on rfl ?_
      obtain ⟨A1, c1, rfl⟩ := own_slice (hT.h1 rfl)
      obtain ⟨A8, c8, rfl⟩ := own_slice (hT.h8 rfl)
      go_simp
      exact hK _ _ hS ⟨true, d3, true, true, d10, v7, _, v13, _, _, rfl, rfl, hT.set9⟩
    · obtain rfl : d10 = false := by simpa using hn
      refine ⟨_, rfl, fun K hK => ?_⟩
      refine ite_on rfl ?_
      go_simp
      exact hK _ _ (below_alloc hS _) ⟨d1, d3, d8, d9, true, _, v11, v13, v18, v19, rfl, rfl, hT.set10 hsW⟩
  · intro a W hS hI
    obtain ⟨d1, d3, d8, d9, d10, v7, v11, v13, v18, v19, hl, rfl, hT⟩ := hI
    obtain ⟨rfl, rfl, rfl, rfl, rfl⟩ : d1 = true ∧ d3 = true ∧ d8 = true ∧ d9 = true ∧ d10 = true := by simpa using hl.symm
    obtain ⟨A1, c1, rfl⟩ := own_slice (hT.h1 rfl)
    obtain ⟨A8, c8, rfl⟩ := own_slice (hT.h8 rfl)
    obtain ⟨bL, rfl, hbL, hcL⟩ := hT.h10 rfl
    obtain rfl := hT.h9 rfl
    have e0 : W.cell? ⟨bL, 0, none⟩ = some (.slice none 0 0) := by simp [World.cell?, hcL]
    have e1 : W.cell? ⟨bL, 1, none⟩ = some (.int .i64 0) := by simp [World.cell?, hcL]
    have e2 : W.cell? ⟨bL, 2, none⟩ = some (.slice none 0 0) := by simp [World.cell?, hcL]
    have z0 : ∀ j, W.frozen? ⟨bL, j, none⟩ = false := fun j => by simp [World.frozen?, hcL]
    refine Reg.eff_on rfl rfl (fun K hK => ?_)
    go_simp
    have hbW : bL < W.heap.size := (Array.getElem?_eq_some_iff.1 hcL).1
    have hx0 := hT.h1 rfl
    have hx8 := hT.h8 rfl
    have hxx := hT.p18 rfl rfl
    have hn1 : (Value.slice A1 1 c1).ownBlock ≠ some bL := row_ne_cells hx0 hcL (by decide)
    have hn8 : (Value.slice A8 ac.length c8).ownBlock ≠ some bL := row_ne_cells hx8 hcL (by decide)
    obtain ⟨W3, hW3⟩ : ∃ W3, W3 = (((W.setCell ⟨bL, 0, none⟩ (.slice A1 1 c1)).setCell ⟨bL, 1, none⟩ (.int .i64 0)).setCell ⟨bL, 2, none⟩ (.slice A8 ac.length c8)) := ⟨_, rfl⟩
    rw [← hW3]
    have hB3 : Below wA.heap.size wA W3 := by rw [hW3]; exact ((hS.setCell hbL _).setCell hbL _).setCell hbL _
    have hL : LR wA.heap.size W3 bL (.slice A1 1 c1) (.slice A8 ac.length c8) [first] 0 ac := by
      have hs0 := grownBy_set W ⟨bL, 0, none⟩ (.slice A1 1 c1)
      have hs1 := grownBy_set (W.setCell ⟨bL, 0, none⟩ (.slice A1 1 c1)) ⟨bL, 1, none⟩ (.int .i64 0)
      have hs2 := grownBy_set ((W.setCell ⟨bL, 0, none⟩ (.slice A1 1 c1)).setCell ⟨bL, 1, none⟩ (.int .i64 0)) ⟨bL, 2, none⟩ (.slice A8 ac.length c8)
      rw [hW3]
      refine { hb := hbL, c0 := ?_, c1 := ?_, c2 := ?_, f0 := by simp [z0], f1 := by simp [z0], o0 := ((hx0.kept hs0 (.inr hn1)).kept hs1 (.inr hn1)).kept hs2 (.inr hn1), o2 := ((hx8.kept hs0 (.inr hn8)).kept hs1 (.inr hn8)).kept hs2 (.inr hn8), a0 := hn1, a2 := hn8, ac := hxx }
      · rw [World.cell?_setCell_other _ _ _ _ (by simp), World.cell?_setCell_other _ _ _ _ (by simp)]; exact World.cell?_setCell_same _ _ _ e0
      · rw [World.cell?_setCell_other _ _ _ _ (by simp)]; exact World.cell?_setCell_same _ _ _ (by rw [World.cell?_setCell_other _ _ _ _ (by simp)]; exact e1)
      · exact World.cell?_setCell_same _ _ _ (by rw [World.cell?_setCell_other _ _ _ _ (by simp), World.cell?_setCell_other _ _ _ _ (by simp)]; exact e2)
    refine hK _ _ (fun h => absurd (by decide) h) ?_
    refine Reg.nil_ ?_
    clear hK hcL e0 e1 e2 z0 hx0 hx8 hxx hn1 hn8 hT hS hW3 hl
    have HL := Aside0.mk hL
    have HB3 := Aside0.mk hB3
    clear hL hB3 s2 s2A
    have S3 := Aside0.mk (SA.out.below HB3.out)
    have T3 := Aside0.mk (TT.out.below S3.out.hB)
    go_wp2_with (first
      | (go_at_call 20; refine (falling_calls sb tb mb pb _ nP f F W3 S3.out.s0 S3.out.s1 T3.out.c2 T3.out.pm S3.out.map HF.out T3.out.P (Nat.le_trans hlen hM)).mono ?_; rintro e w4 ⟨v4, rfl, ho4, hb4⟩; obtain ⟨Av, cv4, rfl⟩ := own_slice ho4; have HV := Aside0.mk ho4; have HB4 := Aside0.mk hb4; clear ho4 hb4))
    have HB43 : Aside0 (Below wA.heap.size wA w4) := ⟨HB3.out.trans (HB4.out.mono HB3.out.size)⟩
    have hz3 := HB3.out.size
    have hz4 := HB4.out.size
    have HL4 := Aside0.mk (HL.out.below HB4.out)
    have HNE : Aside0 ((Value.slice A1 1 c1).ownBlock ≠ (Value.slice Av F.length cv4).ownBlock) := ⟨fun e => by
      obtain ⟨g, hg⟩ := own_some HL.out.o0 (by simp)
      have h1 := own_lt HL.out.o0 hg
      have h2 := own_base HV.out g (by rw [← e, hg])
      omega⟩
    have hbl3 : bL < W3.heap.size := World.block_lt_of_cell? _ _ HL.out.c0
    obtain ⟨vN, hvN⟩ : ∃ vN, vN = Value.slice A8 ac.length c8 := ⟨_, rfl⟩
    obtain ⟨b3, hb3⟩ : ∃ b3, b3 = W3.heap.size := ⟨_, rfl⟩
    rw [← hvN] at HL4
    rw [← hb3] at HV hbl3
    have hz5 : wA.heap.size ≤ b3 := by omega
    clear hb3 HL hz3 hz4
    go_loopw [23] (fun i wr => ∃ (k : Nat) (vC : Value), k ≤ F.length ∧ i = .int .i64 k ∧ Aside0 (LR wA.heap.size wr bL vC vN (first :: restF first (F.take k)) (backF f M (restF first (F.take k))) ac) ∧ Aside0 (Below wA.heap.size wA wr) ∧ Aside0 (wr.ownsRow b3 3 1 (.slice Av F.length cv4) F.length (nums .i64 F)) ∧ Aside0 (vC.ownBlock ≠ (Value.slice Av F.length cv4).ownBlock)) (fun i _ => F.length - (intOf i).toNat)
    case atStart => exact ⟨0, _, Nat.zero_le _, rfl, HL4, HB43, HV, HNE⟩
    case round =>
      obtain ⟨k, vC, hk, rfl, HLk, HBk, HVk, HNk⟩ := hrel
      have SSr := Aside0.mk (SA.out.below HBk.out)
      have TTr := Aside0.mk (TT.out.below SSr.out.hB)
      have hzr := HBk.out.size
      by_cases hlt : k < F.length
      · obtain ⟨ad0, e0, hx⟩ := (own_reads' HVk.out).at_ (k : Int) (by omega) (by omega)
        subst e0
        have HRS := Aside0.mk (restF_snoc (first := first) hlt)
        obtain ⟨x, hxe⟩ : ∃ x, x = rd F (k : Int) := ⟨_, rfl⟩
        have hxm : x ∈ F := by rw [hxe]; exact rd_mem hlt
        rw [← hxe] at hx HRS
        rw [Int.toNat_natCast] at hx
        clear hxe
        have hfx : Fits x := HF.out.fits x hxm
        have HXs : Aside0 ((f (neg x)).isSome = true) := ⟨HF.out.isf x hxm⟩
        have hrl : (restF first (F.take k)).length ≤ 1099511627776 := Nat.le_trans (List.length_filter_le _ _) (Nat.le_trans (List.length_take_le' _ _) (Nat.le_trans hlen hM))
        obtain ⟨R, hR⟩ : ∃ R, R = restF first (F.take k) := ⟨_, rfl⟩
        rw [← hR] at HRS HLk hrl
        clear hR
        by_cases hl0 : x = first
        · have hlb : (x != first) = false := by simp [hl0]
          have HRN : Aside0 (restF first (F.take (k + 1)) = R) := ⟨by rw [HRS.out, if_pos hl0, List.append_nil]⟩
          clear HRS hl0
          go_wp2
          go_roundw
          case rel => exact ⟨k + 1, vC, by omega, by go_num, by rw [HRN.out]; exact HLk, HBk, HVk, HNk⟩
          case measure => simp [intOf]; omega
        · have hlb : (x != first) = true := by simp [hl0]
          have HRN : Aside0 (restF first (F.take (k + 1)) = R ++ [x]) := ⟨by rw [HRS.out, if_neg hl0]⟩
          clear HRS hl0
          have q0 := HLk.out.c0
          have hbr : bL < wr.heap.size := World.block_lt_of_cell? _ _ q0
          go_wp2_with (first
            | (at_builtin; go_must (refine print_append_num (w0 := wr) wA.heap.size rfl (.tmp 31) (.tmp 33) 27 3 .i64 8 rfl Try.underlying27 info3 (by decide) vC (first :: R) x rfl rfl HLk.out.o0 (Below.refl _ _) (by omega) (by simp; omega) ?_); intro v1 w5 ho5 hb5 hg5 hat5; obtain ⟨A5, c5, rfl⟩ := own_slice ho5; have y0 := cell_same q0 (HLk.out.grown hg5); have z0 := (World.frozen?_of_block (w := wr) (a := ⟨bL, 0, none⟩) (HLk.out.grown hg5)).trans HLk.out.f0))
          have hl5 : ((first :: R) ++ [x]).length = R.length + 1 + 1 := by simp
          have HL5 := HLk.out.push hg5 ho5 hat5
          obtain ⟨v5, hv5⟩ : ∃ v5, v5 = Value.slice A5 (R.length + 1 + 1) c5 := ⟨_, rfl⟩
          rw [hl5, ← hv5] at HL5
          rw [hl5, ← hv5] at hat5
          rw [← hv5]
          have hB5 : Below wA.heap.size wA (w5.setCell ⟨bL, 0, none⟩ v5) := (HBk.out.grown hg5 hzr (own_base HLk.out.o0)).setCell HL5.hb _
          have hV5 : (w5.setCell ⟨bL, 0, none⟩ v5).ownsRow b3 3 1 (.slice (some ad0) F.length cv4) F.length (nums .i64 F) := (HVk.out.kept hg5 (.inr fun e => HNk.out e.symm)).kept (grownBy_set _ _ _) (.inr fun e => by have := own_base HVk.out bL e; omega)
          have hN5 : v5.ownBlock ≠ (Value.slice (some ad0) F.length cv4).ownBlock := by
            rcases hat5 with e | ⟨b, e, hle⟩
            · rw [e]; exact HNk.out
            · rw [e]; intro e2; have := own_lt HVk.out e2.symm; omega
          obtain ⟨w6, hw6⟩ : ∃ w6, w6 = w5.setCell ⟨bL, 0, none⟩ v5 := ⟨_, rfl⟩
          rw [← hw6] at HL5 hB5 hV5 ⊢
          have HL6 := Aside0.mk HL5
          have HB6 := Aside0.mk hB5
          have HV6 := Aside0.mk hV5
          have HN6 := Aside0.mk hN5
          have S6 := Aside0.mk (SA.out.below HB6.out)
          have T6 := Aside0.mk (TT.out.below S6.out.hB)
          have s06 := S6.out.s0
          have c16 := HL6.out.c1
          clear HL5 hB5 hV5 hN5 hw6 hv5 hat5 hg5 hb5 ho5 y0 z0 q0 hl5 hx
          refine Reg.by_order [(0, false), (1, false), (2, false), (3, false), (4, false), (5, false), (6, false), (7, true), (8, false), (9, false), (10, false), (11, true)] [11] (fun W => W.cell? ⟨sb, 0, none⟩ = some (.pointer (some ⟨tb, 0, none⟩)) ∧ W.cell? ⟨bL, 1, none⟩ = some (.int .i64 (backF f M R))) (by kernel_rfl) (by kernel_rfl) (fun _ _ d _ _ h => by cases d <;> exact h) ⟨s06, c16⟩ ?_
          iterate 7
            refine Reg.held_at (v := ?_) rfl rfl rfl ?_ ?_
            rotate_left
            · intro W hW
              obtain ⟨h1, h2⟩ := hW
              go_simp
              first | done | rfl
            go_frame
          refine Reg.eff_on rfl rfl (fun K hK => ?_)
          go_simp
          have hdr : Below w6.heap.size w6 w6.drew := ⟨rfl, rfl, rfl, Nat.le_refl _, fun _ _ => rfl⟩
          refine (mark_at (T6.out.below hdr) x hfx HXs.out).mono ?_
          rintro e w7 ⟨rfl, hb7⟩
          replace hb7 : Below w6.heap.size w6 w7 := hdr.trans hb7
          have c17 := pw_cell_below hb7 c16
          have HL7 := Aside0.mk (HL6.out.below hb7)
          have z17 := HL7.out.f1
          have HB67 := Aside0.mk hb7
          refine hK _ _ (fun _ => ⟨pw_cell_below hb7 s06, c17⟩) ?_
          clear hK hb7 hdr
          refine Reg.held_at rfl rfl rfl (fun W _ => level_run _ rfl _ rfl) ?_
          go_frame
          iterate 2
            refine Reg.held_at (v := ?_) rfl rfl rfl ?_ ?_
            rotate_left
            · intro W hW
              obtain ⟨h1, h2⟩ := hW
              go_simp
              first | done | rfl
            go_frame
          refine Reg.eff_on rfl rfl (fun K hK => ?_)
          go_simp
          refine hK _ _ (fun h => absurd (by decide) h) ?_
          clear hK
          refine Reg.nil_ ?_
          have HL8 := Aside0.mk (HL7.out.setBack (max (backF f M R) (Mk f M x).f1))
          have hb6 := HB6.out.size
          have HB7 : Aside0 (Below wA.heap.size wA w7) := ⟨HB6.out.trans (HB67.out.mono hb6)⟩
          go_wp2
          go_roundw
          case rel =>
            refine ⟨k + 1, v5, by omega, by go_num, ?_, ⟨HB7.out.setCell HL8.out.hb _⟩, ⟨(pw_own_below HV6.out HB67.out).kept (grownBy_set _ _ _) (.inr fun e => by have := own_base HV6.out bL e; omega)⟩, HN6⟩
            rw [HRN.out, backF_snoc]
            exact HL8
          case measure => simp [intOf]; omega
      · have HRN : Aside0 (restF first (F.take k) = restF first F) := ⟨by rw [List.take_of_length_le (by omega)]⟩
        rw [HRN.out] at HLk
        have hb6 : w.heap.size < wr.heap.size := by omega
        have y0 := HLk.out.c0
        have y1 := HLk.out.c1
        have y2 := HLk.out.c2
        have hr6 : wr.heap[w.heap.size]? = some (.cells #[.slice none 0 0, .int .i64 0, .slice none 0 0] 29 (0, 0)) := (HBk.out.block _ (by omega)).trans b6.out
        have r0 : wr.cell? ⟨w.heap.size, 0, none⟩ = some (.slice none 0 0) := by simp [World.cell?, hr6]
        have r1 : wr.cell? ⟨w.heap.size, 1, none⟩ = some (.int .i64 0) := by simp [World.cell?, hr6]
        have r2 : wr.cell? ⟨w.heap.size, 2, none⟩ = some (.slice none 0 0) := by simp [World.cell?, hr6]
        have zr : ∀ j, wr.frozen? ⟨w.heap.size, j, none⟩ = false := fun j => by simp [World.frozen?, hr6]
        have zr0 := zr 0
        have zr1 := zr 1
        have zr2 := zr 2
        obtain ⟨AC, cC, rfl⟩ := own_slice HLk.out.o0
        have HBW : Aside0 (Below w.heap.size w wr) := ⟨hB0.trans (HBk.out.mono (by omega))⟩
        subst hvN
        clear hr6 zr hB0
        go_wp2
        refine bodyPost_ret (v := .agg #[.slice AC (first :: restF first F).length cC, .int .i64 (backF f M (restF first F)), .slice A8 ac.length c8]) ?_ rfl ⟨_, _, rfl, ?_, ?_, HLk.out.ac, ?_⟩
        · have g0 : (wr.setCell ⟨w.heap.size, 0, none⟩ (.slice AC (first :: restF first F).length cC)).cell? ⟨w.heap.size, 0, none⟩ = some (.slice AC (first :: restF first F).length cC) := World.cell?_setCell_same _ _ _ r0
          have g1 : ((wr.setCell ⟨w.heap.size, 0, none⟩ (.slice AC (first :: restF first F).length cC)).setCell ⟨w.heap.size, 1, none⟩ (.int .i64 (backF f M (restF first F)))).cell? ⟨w.heap.size, 1, none⟩ = some (.int .i64 (backF f M (restF first F))) :=
            World.cell?_setCell_same _ _ _ (by rw [World.cell?_setCell_other _ _ _ _ (by simp)]; exact r1)
          have g2 : (((wr.setCell ⟨w.heap.size, 0, none⟩ (.slice AC (first :: restF first F).length cC)).setCell ⟨w.heap.size, 1, none⟩ (.int .i64 (backF f M (restF first F)))).setCell ⟨w.heap.size, 2, none⟩ (.slice A8 ac.length c8)).cell? ⟨w.heap.size, 2, none⟩ = some (.slice A8 ac.length c8) :=
            World.cell?_setCell_same _ _ _ (by rw [World.cell?_setCell_other _ _ _ _ (by simp), World.cell?_setCell_other _ _ _ _ (by simp)]; exact r2)
          simp only [List.length_cons] at g0 g1 g2
          simp [results, Try.results16, go_sem, World.cell?_setCell_other, g0, g1, g2]
        · exact ((((own_mono HLk.out.o0 (by omega)).kept (grownBy_set _ _ _) (.inr fun e => by have := own_base HLk.out.o0 _ e; simp at this; omega)).kept (grownBy_set _ _ _) (.inr fun e => by have := own_base HLk.out.o0 _ e; simp at this; omega)).kept (grownBy_set _ _ _) (.inr fun e => by have := own_base HLk.out.o0 _ e; simp at this; omega))
        · exact ((((own_mono HLk.out.o2 (by omega)).kept (grownBy_set _ _ _) (.inr fun e => by have := own_base HLk.out.o2 _ e; simp at this; omega)).kept (grownBy_set _ _ _) (.inr fun e => by have := own_base HLk.out.o2 _ e; simp at this; omega)).kept (grownBy_set _ _ _) (.inr fun e => by have := own_base HLk.out.o2 _ e; simp at this; omega))
        · exact ((HBW.out.setCell (by simp) _).setCell (by simp) _).setCell (by simp) _
end Go.Proofs.Ytjjlcnjhmkackaa.T
