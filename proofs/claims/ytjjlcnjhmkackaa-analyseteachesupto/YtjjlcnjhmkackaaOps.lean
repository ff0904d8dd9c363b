/-
  What resolve, needless, top, clean and told of analyse answer. No condition but that trail and set lie as told.
-/
import Derived.Test.YtjjlcnjhmkackaaPlain
set_option linter.unusedVariables false
set_option linter.unusedSimpArgs false
namespace Go.Proofs.Ytjjlcnjhmkackaa.T
open Go.RowKit Go.Proofs.YtjjlcnjhmkackaaW.PrintWords Go.Proofs.YtjjlcnjhmkackaaW.PrintLast Go.Proofs.YtjjlcnjhmkackaaW.PrintMore
open Go.Proofs.Ytjjlcnjhmkackaa.PA Go.MapII Go.Proofs

theorem own_lt {w : World} {base n : Nat} {e : TypeId} {size : Nat} {v : Value} {xs : List Value} (h : w.ownsRow base e size v n xs) {b : Nat} (hb : v.ownBlock = some b) : b < w.heap.size := by
  rcases h.2 with ⟨rfl, _⟩ | ⟨g0, cap, cur, rfl, _, hh, _⟩
  · simp [Value.ownBlock] at hb
  · have : g0 = b := by simpa [Value.ownBlock] using hb
    subst this
    exact (Array.getElem?_eq_some_iff.1 hh).1
def rd_L1 (xs : List (List Int)) (i : Int) : (List Int) := xs.getD i.toNat ([] : List Int)
theorem at_L1 {w : World} {A : Option Addr} {n : Nat} {xs : List (List Int)} (h : Kd.C (Kd.slice 3 (Kd.int .i64)) w A n xs) (i : Int) (h0 : 0 ≤ i) (h1 : i < n) : ∃ ad A0 c0, A = some ad ∧ w.cell? (ad.add i.toNat) = some (.slice A0 (rd_L1 xs i).length c0) ∧ (rd_L1 xs i).length ≤ c0 ∧ (Kd.int .i64).C w A0 (rd_L1 xs i).length (rd_L1 xs i) := by
  obtain ⟨ad, c, e, _, hK, hc0⟩ := Kd.C_get h ([] : List Int) i h0 h1
  have hc : ∀ j u, c[j]? = some u → w.cell? (ad.add (i.toNat * 1 + j)) = some u := hc0
  obtain ⟨A0, c0, rfl, l0, g0⟩ := hK
  exact ⟨ad, A0, c0, e, by have hq := hc 0 _ rfl; rwa [Nat.mul_one, Nat.add_zero] at hq, l0, g0⟩

/-! #### struct type 54 -/

/-- a trail in memory -/
structure TR (w : World) (tb pb nP : Nat) (Ac : Option Addr) (cc : Nat) (Am : Option Addr) (cm : Nat) (C : List (List Int)) (M : List S54) (f : Int → Option Int) : Prop where
  c0 : w.cell? ⟨tb, 0, none⟩ = some (.slice Ac C.length cc)
  c1 : w.cell? ⟨tb, 1, none⟩ = some (.slice Am M.length cm)
  c2 : w.cell? ⟨tb, 2, none⟩ = some (.map (some pb))
  hcc : C.length ≤ cc
  rc : Kd.C (Kd.slice 3 (Kd.int .i64)) w Ac C.length C
  rm : Kd.C k54 w Am M.length M
  pm : IM w pb nP f
  P : Places f
  fits : ∀ c ∈ C, ∀ x ∈ c, Fits x
  idx : ∀ x i, f x = some i → 0 ≤ i ∧ i < M.length
  big : ∀ c ∈ C, c.length ≤ 1099511627776
theorem TR.below {w w' : World} {tb pb nP : Nat} {Ac Am : Option Addr} {cc cm : Nat} {C : List (List Int)} {M : List S54} {f : Int → Option Int} (h : TR w tb pb nP Ac cc Am cm C M f) (hb : Below w.heap.size w w') : TR w' tb pb nP Ac cc Am cm C M f :=
  { h with c0 := pw_cell_below hb h.c0, c1 := pw_cell_below hb h.c1, c2 := pw_cell_below hb h.c2, rc := Kd.C_below h.rc hb, rm := Kd.C_below h.rm hb, pm := MapII.of_block h.pm (hb.block _ (MapII.lt h.pm)) }

/-- a set in memory, over a trail that lay in wB -/
structure SetAt (wB w : World) (sb mb tb : Nat) (F : List Int) (cv : Value) (ch : List Int) : Prop where
  hB : Below wB.heap.size wB w
  sB : wB.heap.size ≤ sb
  mB : wB.heap.size ≤ mb
  s0 : w.cell? ⟨sb, 0, none⟩ = some (.pointer (some ⟨tb, 0, none⟩))
  s1 : w.cell? ⟨sb, 1, none⟩ = some (.map (some mb))
  s2 : w.cell? ⟨sb, 2, none⟩ = some cv
  fz : w.frozen? ⟨sb, 2, none⟩ = false
  map : IM w mb F.length (setF F)
  own : w.ownsRow wB.heap.size 3 1 cv ch.length (nums .i64 ch)
  apart : cv.ownBlock ≠ some sb

/-- what a call on the set may turn -/
structure Fr (w w' : World) (sb mb : Nat) (cv : Value) : Prop where
  os : w'.os = w.os
  tape : w'.tape = w.tape
  output : w'.output = w.output
  size : w.heap.size ≤ w'.heap.size
  block : ∀ k, k < w.heap.size → k ≠ sb → k ≠ mb → cv.ownBlock ≠ some k → w'.heap[k]? = w.heap[k]?
theorem Fr.refl (w : World) (sb mb : Nat) (cv : Value) : Fr w w sb mb cv := ⟨rfl, rfl, rfl, Nat.le_refl _, fun _ _ _ _ _ => rfl⟩
/-- the new chain's row: the old one's, or a new block -/
def Later (w : World) (cv cv' : Value) : Prop := cv'.ownBlock = cv.ownBlock ∨ ∃ b, cv'.ownBlock = some b ∧ w.heap.size ≤ b
theorem Fr.trans {w w1 w2 : World} {sb mb : Nat} {cv cv1 : Value} (h : Fr w w1 sb mb cv) (hl : Later w cv cv1) (k : Fr w1 w2 sb mb cv1) : Fr w w2 sb mb cv := by
  refine ⟨k.os.trans h.os, k.tape.trans h.tape, k.output.trans h.output, Nat.le_trans h.size k.size, fun i hi h1 h2 h3 => ?_⟩
  refine (k.block i (Nat.lt_of_lt_of_le hi h.size) h1 h2 ?_).trans (h.block i hi h1 h2 h3)
  rcases hl with e | ⟨b, e, hb⟩
  · rw [e]; exact h3
  · rw [e]; intro e2; injection e2 with e2; omega
theorem Later.trans {w w1 : World} {cv cv1 cv2 : Value} (h : Later w cv cv1) (hs : w.heap.size ≤ w1.heap.size) (k : Later w1 cv1 cv2) : Later w cv cv2 := by
  rcases k with e | ⟨b, e, hb⟩
  · unfold Later; rw [e]; exact h
  · exact .inr ⟨b, e, by omega⟩
theorem Fr.below {B : Nat} {wB w w' : World} {sb mb : Nat} {cv : Value} (h : Fr w w' sb mb cv) (hb : Below B wB w) (hB : B ≤ w.heap.size) (h1 : B ≤ sb) (h2 : B ≤ mb) (h3 : ∀ k, cv.ownBlock = some k → B ≤ k) : Below B wB w' :=
  hb.trans ⟨h.os, h.tape, h.output, h.size, fun k hk => h.block k (by omega) (by omega) (by omega) (fun e => by have := h3 k e; omega)⟩
theorem Fr.of_below {w w' : World} (h : Below w.heap.size w w') (sb mb : Nat) (cv : Value) : Fr w w' sb mb cv := ⟨h.os, h.tape, h.output, h.size, fun k hk _ _ _ => h.block k hk⟩

/-- a set stays where only new memory is made -/
theorem SetAt.below {wB w w' : World} {sb mb tb : Nat} {F : List Int} {cv : Value} {ch : List Int} (h : SetAt wB w sb mb tb F cv ch) (hb : Below w.heap.size w w') : SetAt wB w' sb mb tb F cv ch :=
  { h with hB := h.hB.trans (hb.mono h.hB.size), s0 := pw_cell_below hb h.s0, s1 := pw_cell_below hb h.s1, s2 := pw_cell_below hb h.s2, fz := (hb.frozen (p := ⟨sb, 2, none⟩) (World.block_lt_of_cell? w _ h.s2)).trans h.fz, map := MapII.of_block h.map (hb.block _ (MapII.lt h.map)), own := pw_own_below h.own hb }


theorem isMap {w : World} {b n : Nat} {g : Int → Option Int} (h : IM w b n g) : ∃ es clock, w.heap[b]? = some (.map es clock) := by
  obtain ⟨D, ⟨es, clock, hb, _⟩, _⟩ := h
  exact ⟨es, clock, hb⟩
theorem cell_ne_map {w : World} {b n : Nat} {a : Addr} {v : Value} {g : Int → Option Int} (h : IM w b n g) (hc : w.cell? a = some v) : a.block ≠ b := by
  obtain ⟨es, clock, hb⟩ := isMap h
  intro e
  subst e
  simp [World.cell?, hb] at hc
theorem row_ne_map {w : World} {b n base : Nat} {e : TypeId} {sz m : Nat} {v : Value} {xs : List Value} {g : Int → Option Int} (h : IM w b n g) (hr : w.ownsRow base e sz v m xs) : v.ownBlock ≠ some b := by
  obtain ⟨es, clock, hb⟩ := isMap h
  rcases hr.2 with ⟨rfl, _⟩ | ⟨g0, cap, cur, rfl, _, hh, _⟩
  · simp [Value.ownBlock]
  · intro e1
    have : g0 = b := by simpa [Value.ownBlock] using e1
    subst this
    rw [hb] at hh; cases hh
theorem SetAt.ne {wB w : World} {sb mb tb : Nat} {F : List Int} {cv : Value} {ch : List Int} (h : SetAt wB w sb mb tb F cv ch) : sb ≠ mb := cell_ne_map h.map h.s0
/-- a set whose map was written -/
theorem SetAt.turn {wB w w' : World} {sb mb tb : Nat} {F F' : List Int} {cv : Value} {ch : List Int} {n : Nat} (h : SetAt wB w sb mb tb F cv ch) (hg : w.grownBy w' (some mb)) (hm : IM w' mb n (setF F')) : SetAt wB w' sb mb tb F' cv ch := by
  have hne := h.ne
  have hs : w'.heap[sb]? = w.heap[sb]? := hg.block sb (World.block_lt_of_cell? w _ h.s0) (fun e => hne (by injection e))
  exact { h with
    hB := h.hB.grown hg h.hB.size (fun k hk => by cases hk; exact h.mB)
    s0 := cell_same h.s0 hs
    s1 := cell_same h.s1 hs
    s2 := cell_same h.s2 hs
    fz := (World.frozen?_of_block (w := w) (a := ⟨sb, 2, none⟩) hs).trans h.fz
    map := MapII.tight Try.underlying3 hm F' (fun x hx => by rw [setF_some] at hx; simpa using hx)
    own := h.own.kept hg (.inr (row_ne_map h.map h.own)) }

theorem Fr.turn {w w1 w2 : World} {sb mb : Nat} {cv : Value} (h : Fr w w1 sb mb cv) (hg : w1.grownBy w2 (some mb)) : Fr w w2 sb mb cv :=
  ⟨hg.os.trans h.os, hg.tape.trans h.tape, hg.output.trans h.output, Nat.le_trans h.size hg.size, fun k hk h1 h2 h3 => (hg.block k (Nat.lt_of_lt_of_le hk h.size) (fun e => h2 (by injection e))).trans (h.block k hk h1 h2 h3)⟩
theorem grownBy_set (W : World) (a : Addr) (v : Value) : W.grownBy (W.setCell a v) (some a.block) :=
  ⟨rfl, rfl, rfl, Nat.le_of_eq (World.size_setCell _ _ _).symm, fun k _ hk => Below.heap_setCell _ _ _ k (fun e => hk (by rw [e]))⟩
/-- a set whose chain was written -/
theorem SetAt.push {wB w w1 : World} {sb mb tb : Nat} {F : List Int} {cv cv1 : Value} {ch ch1 : List Int} (h : SetAt wB w sb mb tb F cv ch) (hg : w.grownBy w1 cv.ownBlock) (ho : w1.ownsRow wB.heap.size 3 1 cv1 ch1.length (nums .i64 ch1)) (hat : Later w cv cv1) :
    SetAt wB (w1.setCell ⟨sb, 2, none⟩ cv1) sb mb tb F cv1 ch1 ∧ Fr w (w1.setCell ⟨sb, 2, none⟩ cv1) sb mb cv := by
  have hne := h.ne
  have hsb : sb < w.heap.size := World.block_lt_of_cell? w _ h.s0
  have hsz := h.hB.size
  have hb : w1.heap[sb]? = w.heap[sb]? := hg.block sb hsb (fun e => h.apart e.symm)
  have hmm : w1.heap[mb]? = w.heap[mb]? := hg.block mb (MapII.lt h.map) (fun e => row_ne_map h.map h.own e.symm)
  have hap : cv1.ownBlock ≠ some sb := by
    rcases hat with e | ⟨b, e, hb⟩
    · rw [e]; exact h.apart
    · rw [e]; intro e2; injection e2 with e2; omega
  have hg2 := grownBy_set w1 ⟨sb, 2, none⟩ cv1
  have hB1 : Below wB.heap.size wB w1 := h.hB.grown hg hsz (own_base h.own)
  refine ⟨{ hB := hB1.grown hg2 hB1.size (fun k hk => by cases hk; exact h.sB), sB := h.sB, mB := h.mB, s0 := ?_, s1 := ?_, s2 := World.cell?_setCell_same _ _ _ (cell_same h.s2 hb), fz := ?_, map := MapII.setCell (MapII.of_block h.map hmm) (fun e => hne e.symm) _, own := ho.kept hg2 (.inr (fun e => hap e)), apart := hap }, ?_⟩
  · rw [World.cell?_setCell_other _ _ _ _ (by simp)]; exact cell_same h.s0 hb
  · rw [World.cell?_setCell_other _ _ _ _ (by simp)]; exact cell_same h.s1 hb
  · rw [World.frozen?_setCell]; exact (World.frozen?_of_block (w := w) (a := ⟨sb, 2, none⟩) hb).trans h.fz
  · exact ⟨hg2.os.trans hg.os, hg2.tape.trans hg.tape, hg2.output.trans hg.output, Nat.le_trans hg.size hg2.size, fun k hk h1 h2 h3 => (hg2.block k (Nat.lt_of_lt_of_le hk hg.size) (fun e => h1 (by injection e))).trans (hg.block k hk (fun e => h3 e.symm))⟩
theorem take_rd {c : List Int} {k : Nat} (h : k < c.length) : c.take (k + 1) = c.take k ++ [rd c (k : Int)] := by
  rw [List.take_succ_eq_append_getElem h]
  simp [rd, List.getD_eq_getElem?_getD, List.getElem?_eq_getElem h]

set_option maxRecDepth 100000 in
/-- (*set).resolve: q: the literal's mark; c: its reason -/
theorem resolve_calls {wB w : World} {sb mb tb pb nP : Nat} {Ac Am : Option Addr} {cc cm : Nat} {C : List (List Int)} {M : List S54} {f : Int → Option Int} {F : List Int} {cv : Value} {ch : List Int} (T : TR wB tb pb nP Ac cc Am cm C M f) (S : SetAt wB w sb mb tb F cv ch)
    (hF : Fall f F) (hlen : F.length ≤ 1099511627776) (hch : ch.length ≤ 4398046511104) (lit i : Int) (hl : Fits lit) (hi : f (neg lit) = some i) (q : S54) (hq : rd_T54 M i = q) (hr0 : 0 ≤ q.f2) (hr1 : q.f2 < C.length)
    (c : List Int) (hcd : rd_L1 C q.f2 = c) (hc : ∀ l ∈ c, l ≠ q.f0 → (f (neg l)).isSome = true) :
    Calls Try.prog 14 #[.pointer (some ⟨sb, 0, none⟩), .int .i64 lit] w fun e w' => e = .returned (.tuple #[]) ∧ ∃ cv', SetAt wB w' sb mb tb (insAll f q.f0 (strike F lit) c) cv' (ch ++ [q.f2]) ∧ Fr w w' sb mb cv ∧ Later w cv cv' := by
  have hmc : c ∈ C := by
    rw [← hcd]
    unfold rd_L1
    rw [List.getD_eq_getElem?_getD, List.getElem?_eq_getElem (by omega)]
    exact List.getElem_mem _
  have HFx : Aside0 (∀ x ∈ c, Fits x) := ⟨T.fits c hmc⟩
  have hlc : c.length ≤ 1099511627776 := T.big c hmc
  have HQ := Aside0.mk hq
  have HCD := Aside0.mk hcd
  clear hq hcd hmc
  have T0 := T.below S.hB
  obtain ⟨hi0, hi1⟩ := T.idx _ _ hi
  have c0 := S.s0
  have c1 := S.s1
  have hsb : sb < w.heap.size := World.block_lt_of_cell? w _ c0
  have hmb : mb < w.heap.size := MapII.lt S.map
  have TT := Aside0.mk T
  have SS := Aside0.mk S
  have TT0 := Aside0.mk T0
  have HI := Aside0.mk hi
  have HF := Aside0.mk hF
  have HC := Aside0.mk hc
  clear T S T0 hi hF hc
  go_enter Try.func14, Try.ntmps14
  go_wp2_with (first
    | (go_at_call 19; refine (mark_calls tb pb nP f Am cm M lit i w hl TT0.out.c1 TT0.out.c2 TT0.out.rm TT0.out.pm (by rw [HI.out]; rfl) hi0 hi1).mono ?_; rw [HQ.out]; rintro e w1 ⟨rfl, hb1⟩; have SS1 := Aside0.mk (SS.out.below hb1); have HB1 := Aside0.mk hb1; have h1sz := hb1.size; have d1 := SS1.out.s1; have d0 := SS1.out.s0; have hsb1 : sb < w1.heap.size := World.block_lt_of_cell? w1 _ d0; have hmb1 : mb < w1.heap.size := MapII.lt SS1.out.map; clear hb1; unfold aggOf)
    | (at_delete; refine wp_delete _ rfl (.tmp 16) (.tmp 17) 44 3 rfl 3 Try.underlying44 Try.underlying3 mb F.length (setF F) rfl (MapII.alloc SS1.out.map _) lit rfl hl ?_; intro w2 ho2 hg2 hs2))
  go_frame
  have hmw : mb < w1.heap.size := hmb1
  have SS2 : Aside0 (SetAt wB w2 sb mb tb (strike F lit) cv ch) := ⟨(SS1.out.below (below_alloc (Below.refl _ _) _)).turn hg2 (by rw [setF_strike]; exact ho2)⟩
  have FR2 : Aside0 (Fr w w2 sb mb cv) := ⟨⟨hg2.os.trans HB1.out.os, hg2.tape.trans HB1.out.tape, hg2.output.trans HB1.out.output, by have := hg2.size; simp at this; omega, fun k hk _ h2 _ => (hg2.block k (by simp; omega) (fun e => h2 (by injection e))).trans ((Below.heap_alloc w1 _ k (by omega)).trans (HB1.out.block k hk))⟩⟩
  have hgb : ∀ j, w2.cell? ⟨w1.heap.size, j, none⟩ = (w1.alloc (.cells #[.int .i64 q.f0, .int .i64 q.f1, .int .i64 q.f2] 54)).cell? ⟨w1.heap.size, j, none⟩ := fun j => World.cell?_of_block (hg2.block w1.heap.size (by simp) (fun e => by injection e with e; omega))
  have e0 : w2.cell? ⟨w1.heap.size, 0, none⟩ = some (.int .i64 q.f0) := by rw [hgb]; simp
  have e2 : w2.cell? ⟨w1.heap.size, 2, none⟩ = some (.int .i64 q.f2) := by rw [hgb]; simp
  have TT2 := Aside0.mk (TT.out.below SS2.out.hB)
  obtain ⟨ad, A0, cc0, rfl, hcl, hle, hcr⟩ := at_L1 TT.out.rc _ hr0 hr1
  rw [HCD.out] at hcl hle hcr
  replace hcl := pw_cell_below SS2.out.hB hcl
  have d0' := SS2.out.s0
  have t0' := TT2.out.c0
  have HZ2 : Aside0 (w1.heap.size < w2.heap.size) := ⟨by have := hg2.size; simp at this; omega⟩
  clear hg2 hs2 ho2 hgb c0 c1 d0 d1 hsb hmb hsb1 hmb1
  refine Reg.still_all (by kernel_rfl) (by kernel_rfl) (fun nd => ?_)
  repeat still_step
  refine wpStill_nil ?_
  go_wp2
  have HCR := Aside0.mk hcr
  have E0 := Aside0.mk e0
  have E2 := Aside0.mk e2
  clear hcr e0 e2 hcl d0' t0' hle
  go_loopw [6, 30] (fun _ v wr => ∃ (k : Nat), k ≤ c.length ∧ v = .int .i64 k ∧ Aside0 (SetAt wB wr sb mb tb (insAll f q.f0 (strike F lit) (c.take k)) cv ch) ∧ Aside0 (Fr w wr sb mb cv) ∧ Aside0 (wr.cell? ⟨w1.heap.size, 0, none⟩ = some (.int .i64 q.f0)) ∧ Aside0 (wr.cell? ⟨w1.heap.size, 2, none⟩ = some (.int .i64 q.f2))
    ) (fun _ v _ => c.length - (intOf v).toNat)
  case atStart => exact ⟨0, Nat.zero_le _, rfl, ⟨by simpa [insAll] using SS2.out.below (pw_below_drewN (Below.refl _ _) nd)⟩, ⟨{ FR2.out with }⟩, ⟨E0.out⟩, ⟨E2.out⟩⟩
  case round =>
    obtain ⟨k, hk, rfl, HS, HFR, G0, G2⟩ := hrel
    by_cases hlt : k < c.length
    · obtain ⟨ad0, e0, hx⟩ := Kd.at_int (Kd.C_below HCR.out HS.out.hB) (k : Int) (by omega) (by omega)
      subst e0
      have HTK := Aside0.mk (take_rd hlt)
      obtain ⟨x, hxe⟩ : ∃ x, x = rd c (k : Int) := ⟨_, rfl⟩
      have hxm : x ∈ c := by rw [hxe]; exact rd_mem hlt
      have hfx : Fits x := HFx.out x hxm
      rw [← hxe] at hx HTK
      rw [Int.toNat_natCast] at hx
      clear hxe
      have g0 := G0.out
      have s1 := HS.out.s1
      by_cases hl0 : x = q.f0
      · have hlb : (x != q.f0) = false := by simp [hl0]
        have HN : Aside0 (insAll f q.f0 (strike F lit) (c.take (k + 1)) = insAll f q.f0 (strike F lit) (c.take k)) := ⟨by rw [HTK.out, insAll_snoc, if_pos hl0]⟩
        clear hl0
        go_wp2
        go_roundw
        case rel => exact ⟨k + 1, by omega, by go_num, ⟨by rw [HN.out]; exact HS.out⟩, HFR, G0, G2⟩
        case measure => simp [intOf]; omega
      · have hlb : (x != q.f0) = true := by simp [hl0]
        have HN : Aside0 (insAll f q.f0 (strike F lit) (c.take (k + 1)) = insF f x (insAll f q.f0 (strike F lit) (c.take k))) := ⟨by rw [HTK.out, insAll_snoc, if_neg hl0]⟩
        have hbd : (insAll f q.f0 (strike F lit) (c.take k)).length < maxLen := by
          have h1 := insAll_length (f := f) (x0 := q.f0) (c := c.take k) (F := strike F lit)
          have h2 : (strike F lit).length ≤ F.length := List.length_filter_le _ _
          have h3 : (c.take k).length ≤ c.length := List.length_take_le' _ _
          unfold maxLen; omega
        have HBD := Aside0.mk hbd
        clear hl0 hbd
        go_wp2_with (at_mapUpdate; refine wp_update _ rfl (.tmp 41) (.tmp 42) _ 44 rfl 3 3 Try.underlying44 Try.underlying3 Try.underlying3 mb _ _ rfl HS.out.map HBD.out x 1 rfl rfl hfx (by decide) ?_; intro w3 ho3 hg3 hs3; have HO3 := Aside0.mk ho3; have HG3 := Aside0.mk hg3; clear ho3 hg3 hs3)
        go_roundw
        case rel =>
          have hne0 : (w1.heap.size) ≠ mb := cell_ne_map HS.out.map g0
          exact ⟨k + 1, by omega, by go_num, ⟨by rw [HN.out]; exact HS.out.turn HG3.out (by rw [setF_ins]; exact HO3.out)⟩, ⟨HFR.out.turn HG3.out⟩, ⟨cell_same G0.out (HG3.out.block w1.heap.size (World.block_lt_of_cell? _ _ G0.out) (fun e => hne0 (by injection e)))⟩, ⟨cell_same G2.out (HG3.out.block w1.heap.size (World.block_lt_of_cell? _ _ G2.out) (fun e => hne0 (by injection e)))⟩⟩
        case measure => simp [intOf]; omega
    · have HE : Aside0 (c.take k = c) := ⟨List.take_of_length_le (by omega)⟩
      go_wp2
      have s2 := HS.out.s2
      have g2 := G2.out
      refine Reg.by_order [(0, false), (1, false), (2, false), (3, false), (4, false), (5, false), (6, false), (7, true), (8, true), (9, false), (10, false), (11, true)] [11] (fun W => W.cell? ⟨sb, 2, none⟩ = some cv ∧ W.cell? ⟨w1.heap.size, 2, none⟩ = some (.int .i64 q.f2)) (by kernel_rfl) (by kernel_rfl) (fun _ _ d _ _ h => by cases d <;> exact h) ⟨s2, g2⟩ ?_
      iterate 7
        refine Reg.held_at (v := ?_) rfl rfl rfl ?_ ?_
        rotate_left
        · intro W hW
          obtain ⟨h1, h2⟩ := hW
          go_simp
          first | done | rfl
        go_frame
      refine Reg.eff_on rfl rfl (fun K hK => ?_)
      go_simp
      have hsbr : sb < wr.heap.size := World.block_lt_of_cell? _ _ s2
      have hw1r : w1.heap.size < wr.heap.size := World.block_lt_of_cell? _ _ g2
      refine hK _ _ (fun _ => ⟨?_, ?_⟩) ?_
      · exact pw_cell_below (below_alloc (Below.refl _ _) _) s2
      · exact pw_cell_below (below_alloc (Below.refl _ _) _) g2
      clear hK
      refine Reg.eff_on rfl rfl (fun K hK => ?_)
      refine Reg.append_num_K (w0 := wr.drew) (W := wr.drew) wB.heap.size (.tmp 48) (.tmp 51) 26 3 .i64 8 rfl Try.underlying26 info3 (by decide) cv ch q.f2 rfl rfl HS.out.own (Below.refl _ _) HS.out.hB.size (by omega) ?_
      intro cv1 w2' ho2' hb2' hg2' hat2'
      have hncv : cv.ownBlock ≠ some w1.heap.size := fun e => by have := own_lt SS.out.own e; omega
      have s2' := cell_same s2 (hg2'.block sb hsbr (fun e => HS.out.apart e.symm))
      have g2' := cell_same g2 (hg2'.block w1.heap.size hw1r (fun e => hncv e.symm))
      have fz2 : w2'.frozen? ⟨sb, 2, none⟩ = false := (World.frozen?_of_block (w := wr.drew) (a := ⟨sb, 2, none⟩) (hg2'.block sb hsbr (fun e => HS.out.apart e.symm))).trans HS.out.fz
      refine hK _ _ (fun _ => ⟨s2', g2'⟩) ?_
      clear hK
      go_frame
      iterate 2
        refine Reg.held_at (v := ?_) rfl rfl rfl ?_ ?_
        rotate_left
        · intro W hW
          obtain ⟨h1, h2⟩ := hW
          go_simp
          first | done | rfl
        go_frame
      refine Reg.eff_on rfl rfl (fun K hK => ?_)
      obtain ⟨A1, cc1, rfl⟩ := own_slice ho2'
      go_simp
      refine hK _ _ (fun h => absurd (by decide) h) ?_
      clear hK
      refine Reg.nil_ ?_
      go_wp2
      obtain ⟨hS, hR⟩ := HS.out.push (w1 := w2') (ch1 := ch ++ [q.f2]) ⟨hg2'.os, hg2'.tape, hg2'.output, hg2'.size, hg2'.block⟩ ho2' hat2'
      rw [HE.out] at hS
      have hle : (ch ++ [q.f2]).length = ch.length + 1 := by simp
      rw [hle] at hS hR hat2'
      go_end0
      exact ⟨rfl, _, hS, ⟨hR.os.trans HFR.out.os, hR.tape.trans HFR.out.tape, hR.output.trans HFR.out.output, Nat.le_trans HFR.out.size hR.size, fun k hk h1 h2 h3 => (hR.block k (Nat.lt_of_lt_of_le hk HFR.out.size) h1 h2 h3).trans (HFR.out.block k hk h1 h2 h3)⟩, by rcases hat2' with e | ⟨b, e, hb⟩; exact .inl e; exact .inr ⟨b, e, Nat.le_trans HFR.out.size hb⟩⟩
end Go.Proofs.Ytjjlcnjhmkackaa.T
