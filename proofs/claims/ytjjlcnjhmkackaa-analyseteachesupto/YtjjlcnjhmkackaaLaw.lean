/-
  AnalyseTeaches, its first region: First over copies, and what it answers put into memory. No condition but that all lies as told.
  AnalyseTeaches: it answers true, whatever the case and the conflict. No condition but that all lies as told and is of a size.
  AnalyseTeaches, where what it reads is of a bulk of at most 1048576: it answers true and its arguments read as before. No further condition.
-/
import Derived.Test.YtjjlcnjhmkackaaLives
import Derived.Test.YtjjlcnjhmkackaaRow
set_option linter.unusedVariables false
set_option linter.unusedSimpArgs false
namespace Go.Proofs.Ytjjlcnjhmkackaa.T
open Go.RowKit Go.Proofs.YtjjlcnjhmkackaaW.PrintWords Go.Proofs.YtjjlcnjhmkackaaW.PrintLast Go.Proofs.YtjjlcnjhmkackaaW.PrintMore
open Go.Proofs.Ytjjlcnjhmkackaa.PA Go.MapII Go.Proofs

/-- what First or Less answered, as a value -/
structure Ans (B : Nat) (W : World) (R : Option (List Int × Int × List Int)) (vC : Value) (b : Int) (vN : Value) (code : Int) : Prop where
  sC : ∃ A n c, vC = .slice A n c
  sN : ∃ A n c, vN = .slice A n c
  bad : R = none → vC = .slice none 0 0 ∧ b = 0 ∧ vN = .slice none 0 0 ∧ code ≠ 0
  fine : ∀ c b' n, R = some (c, b', n) → b = b' ∧ code = 0 ∧ W.ownsRow B 3 1 vC c.length (nums .i64 c) ∧ W.ownsRow B 3 1 vN n.length (nums .i64 n)
theorem Ans.of {B : Nat} {W : World} {R : Option (List Int × Int × List Int)} {e : Ending} (h : FirstOut B W R e) : ∃ vC b vN code, e = .returned (.tuple #[.agg #[vC, .int .i64 b, vN], .int .i64 code]) ∧ Ans B W R vC b vN code := by
  cases R with
  | none =>
    obtain ⟨code, hc, rfl⟩ := h
    exact ⟨_, _, _, _, rfl, ⟨⟨_, _, _, rfl⟩, ⟨_, _, _, rfl⟩, fun _ => ⟨rfl, rfl, rfl, hc⟩, fun c b' n h => (by cases h)⟩⟩
  | some r =>
    obtain ⟨c, b, n⟩ := r
    obtain ⟨vC, vN, rfl, h1, h2, _⟩ := h
    obtain ⟨A1, c1, e1⟩ := own_slice h1
    obtain ⟨A2, c2, e2⟩ := own_slice h2
    refine ⟨_, _, _, _, rfl, ⟨⟨_, _, _, e1⟩, ⟨_, _, _, e2⟩, fun h => (by cases h), fun c' b' n' h => ?_⟩⟩
    injection h with h
    injection h with h3 h4
    injection h4 with h4 h5
    subst h3 h4 h5
    exact ⟨rfl, rfl, h1, h2⟩
theorem Ans.lower {B B' : Nat} {W : World} {R : Option (List Int × Int × List Int)} {vC vN : Value} {b code : Int} (h : Ans B W R vC b vN code) (hb : B' ≤ B) : Ans B' W R vC b vN code :=
  ⟨h.sC, h.sN, h.bad, fun c b' n e => by obtain ⟨h1, h2, h3, h4⟩ := h.fine c b' n e; exact ⟨h1, h2, own_mono h3 hb, own_mono h4 hb⟩⟩
theorem Ans.below {B : Nat} {W W' : World} {R : Option (List Int × Int × List Int)} {vC vN : Value} {b code : Int} (h : Ans B W R vC b vN code) (hb : Below W.heap.size W W') : Ans B W' R vC b vN code :=
  ⟨h.sC, h.sN, h.bad, fun c b' n e => by obtain ⟨h1, h2, h3, h4⟩ := h.fine c b' n e; exact ⟨h1, h2, pw_own_below h3 hb, pw_own_below h4 hb⟩⟩
/-- put into a block of its own -/
theorem Ans.put {B p : Nat} {W : World} {R : Option (List Int × Int × List Int)} {vC vN : Value} {b code : Int} {cs : Array Value} (h : Ans B W R vC b vN code) (hp : W.heap[p]? = some (.cells cs 29 (0, 0))) (a0 a1 a2 : Value) :
    Ans B (((W.setCell ⟨p, 0, none⟩ a0).setCell ⟨p, 1, none⟩ a1).setCell ⟨p, 2, none⟩ a2) R vC b vN code :=
  ⟨h.sC, h.sN, h.bad, fun c b' n e => by
    obtain ⟨h1, h2, h3, h4⟩ := h.fine c b' n e
    exact ⟨h1, h2, h3.kept (grownBy_set3 (b := p) a0 a1 a2) (.inr (row_ne_cells h3 hp (by decide))), h4.kept (grownBy_set3 (b := p) a0 a1 a2) (.inr (row_ne_cells h4 hp (by decide)))⟩⟩
/-- three cells of what was learnt, at a block -/
def At3 (B : Nat) (W : World) (p : Nat) (vC : Value) (b : Int) (vN : Value) : Prop := B ≤ p ∧ W.heap[p]? = some (.cells #[vC, .int .i64 b, vN] 29 (0, 0))
theorem At3.below {B p : Nat} {W W' : World} {vC vN : Value} {b : Int} (h : At3 B W p vC b vN) (hb : Below W.heap.size W W') : At3 B W' p vC b vN := ⟨h.1, (hb.block _ (Array.getElem?_eq_some_iff.1 h.2).1).trans h.2⟩
theorem At3.lower {B B' p : Nat} {W : World} {vC vN : Value} {b : Int} (h : At3 B W p vC b vN) (hb : B' ≤ B) : At3 B' W p vC b vN := ⟨Nat.le_trans hb h.1, h.2⟩

section
variable {C : List (List Int)} {M : List S54} {B : Nat} {W W' : World} {R : Option (List Int × Int × List Int)} {d2 d5 d7 d8 d9 d10 d11 d12 : Bool} {v15 v18 v20 v12 v21 v22 v5 vC vN : Value} {b code : Int}
structure RA (C : List (List Int)) (M : List S54) (B : Nat) (W : World) (R : Option (List Int × Int × List Int)) (d2 d5 d7 d8 d9 d10 d11 d12 : Bool) (v15 v18 v20 v12 v21 v22 v5 vC vN : Value) (b code : Int) : Prop where
  f2 : d2 = true → d7 = false → ∃ g, v15 = .slice (some ⟨g, 0, none⟩) C.length C.length ∧ Kd.C (Kd.slice 3 (Kd.int .i64)) W (some ⟨g, 0, none⟩) C.length C
  f5 : d5 = true → d7 = false → ∃ A c, v18 = .slice A M.length c ∧ M.length ≤ c ∧ Kd.C k54 W A M.length M
  f7 : d7 = true → v20 = .tuple #[.agg #[vC, .int .i64 b, vN], .int .i64 code] ∧ Ans B W R vC b vN code
  f8 : d8 = true → v12 = v20 ∧ d7 = true
  f9 : d9 = true → v21 = .agg #[vC, .int .i64 b, vN] ∧ d8 = true
  f10 : d10 = true → v22 = .int .i64 code ∧ d8 = true
  f11 : d11 = true → d12 = false → ∃ p, v5 = .pointer (some ⟨p, 0, none⟩) ∧ At3 B W p (.slice none 0 0) 0 (.slice none 0 0)
  f12 : d12 = true → d11 = true ∧ d7 = true ∧ ∃ p, v5 = .pointer (some ⟨p, 0, none⟩) ∧ At3 B W p vC b vN
theorem RA.below (h : RA C M B W R d2 d5 d7 d8 d9 d10 d11 d12 v15 v18 v20 v12 v21 v22 v5 vC vN b code) (hb : Below W.heap.size W W') : RA C M B W' R d2 d5 d7 d8 d9 d10 d11 d12 v15 v18 v20 v12 v21 v22 v5 vC vN b code :=
  { h with
    f2 := fun a c => by obtain ⟨g, e, k⟩ := h.f2 a c; exact ⟨g, e, Kd.C_below k hb⟩
    f5 := fun a c => by obtain ⟨A, cc, e, l, k⟩ := h.f5 a c; exact ⟨A, cc, e, l, Kd.C_below k hb⟩
    f7 := fun a => ⟨(h.f7 a).1, (h.f7 a).2.below hb⟩
    f11 := fun a c => by obtain ⟨p, e, k⟩ := h.f11 a c; exact ⟨p, e, k.below hb⟩
    f12 := fun a => by obtain ⟨x, y, p, e, k⟩ := h.f12 a; exact ⟨x, y, p, e, k.below hb⟩ }
theorem RA.set2 {g : Nat} (h : RA C M B W R false d5 d7 d8 d9 d10 d11 d12 v15 v18 v20 v12 v21 v22 v5 vC vN b code) (hb : Below W.heap.size W W') (hC : Kd.C (Kd.slice 3 (Kd.int .i64)) W' (some ⟨g, 0, none⟩) C.length C) :
    RA C M B W' R true d5 d7 d8 d9 d10 d11 d12 (.slice (some ⟨g, 0, none⟩) C.length C.length) v18 v20 v12 v21 v22 v5 vC vN b code :=
  { h.below hb with f2 := fun _ _ => ⟨g, rfl, hC⟩ }
theorem RA.set5 {A : Option Addr} {c : Nat} (h : RA C M B W R d2 false d7 d8 d9 d10 d11 d12 v15 v18 v20 v12 v21 v22 v5 vC vN b code) (hb : Below W.heap.size W W') (hc : M.length ≤ c) (hM : Kd.C k54 W' A M.length M) :
    RA C M B W' R d2 true d7 d8 d9 d10 d11 d12 v15 (.slice A M.length c) v20 v12 v21 v22 v5 vC vN b code :=
  { h.below hb with f5 := fun _ _ => ⟨A, c, rfl, hc, hM⟩ }
theorem RA.set7 {vC' vN' : Value} {b' code' : Int} (h : RA C M B W R d2 d5 false d8 d9 d10 d11 d12 v15 v18 v20 v12 v21 v22 v5 vC vN b code) (hb : Below W.heap.size W W') (hA : Ans B W' R vC' b' vN' code') :
    RA C M B W' R d2 d5 true d8 d9 d10 d11 d12 v15 v18 (.tuple #[.agg #[vC', .int .i64 b', vN'], .int .i64 code']) v12 v21 v22 v5 vC' vN' b' code' :=
  { h.below hb with
    f2 := fun _ a => (by cases a)
    f5 := fun _ a => (by cases a)
    f7 := fun _ => ⟨rfl, hA⟩
    f8 := fun a => (by cases (h.f8 a).2)
    f9 := fun a => (by cases (h.f8 (h.f9 a).2).2)
    f10 := fun a => (by cases (h.f8 (h.f10 a).2).2)
    f12 := fun a => (by cases (h.f12 a).2.1) }
theorem RA.set8 (h : RA C M B W R d2 d5 true false d9 d10 d11 d12 v15 v18 v20 v12 v21 v22 v5 vC vN b code) : RA C M B W R d2 d5 true true d9 d10 d11 d12 v15 v18 v20 v20 v21 v22 v5 vC vN b code :=
  { h with f8 := fun _ => ⟨rfl, rfl⟩, f9 := fun a => ⟨(h.f9 a).1, rfl⟩, f10 := fun a => ⟨(h.f10 a).1, rfl⟩ }
theorem RA.set9 (h : RA C M B W R d2 d5 d7 true false d10 d11 d12 v15 v18 v20 v12 v21 v22 v5 vC vN b code) : RA C M B W R d2 d5 d7 true true d10 d11 d12 v15 v18 v20 v12 (.agg #[vC, .int .i64 b, vN]) v22 v5 vC vN b code :=
  { h with f9 := fun _ => ⟨rfl, rfl⟩ }
theorem RA.set10 (h : RA C M B W R d2 d5 d7 true d9 false d11 d12 v15 v18 v20 v12 v21 v22 v5 vC vN b code) : RA C M B W R d2 d5 d7 true d9 true d11 d12 v15 v18 v20 v12 v21 (.int .i64 code) v5 vC vN b code :=
  { h with f10 := fun _ => ⟨rfl, rfl⟩ }
theorem RA.set11 (h : RA C M B W R d2 d5 d7 d8 d9 d10 false d12 v15 v18 v20 v12 v21 v22 v5 vC vN b code) (hB : B ≤ W.heap.size) :
    RA C M B (W.alloc (.cells #[.slice none 0 0, .int .i64 0, .slice none 0 0] 29)) R d2 d5 d7 d8 d9 d10 true d12 v15 v18 v20 v12 v21 v22 (.pointer (some ⟨W.heap.size, 0, none⟩)) vC vN b code :=
  { h.below (below_alloc (Below.refl _ _) _) with
    f11 := fun _ _ => ⟨_, rfl, hB, heap_alloc_new _ _⟩
    f12 := fun a => (by cases (h.f12 a).1) }
theorem RA.set12 {p : Nat} (h : RA C M B W R d2 d5 true d8 d9 d10 true false v15 v18 v20 v12 v21 v22 v5 vC vN b code) (hp : v5 = .pointer (some ⟨p, 0, none⟩)) (hA : At3 B W p (.slice none 0 0) 0 (.slice none 0 0)) :
    RA C M B (((W.setCell ⟨p, 0, none⟩ vC).setCell ⟨p, 1, none⟩ (.int .i64 b)).setCell ⟨p, 2, none⟩ vN) R d2 d5 true d8 d9 d10 true true v15 v18 v20 v12 v21 v22 v5 vC vN b code :=
  { h with
    f2 := fun _ a => (by cases a)
    f5 := fun _ a => (by cases a)
    f7 := fun _ => ⟨(h.f7 rfl).1, (h.f7 rfl).2.put hA.2 _ _ _⟩
    f11 := fun _ a => (by cases a)
    f12 := fun _ => ⟨rfl, rfl, p, hp, hA.1, set3 hA.2 _ _ _⟩ }
end

/-- a copy of what was learnt -/
def RL (W : World) (d50 d51 : Bool) (v50 : Value) (cl : List Int) (bk : Int) (ch : List Int) : Prop :=
  d50 = true → d51 = false → ∃ A1 c1 A2 c2, v50 = .agg #[.slice A1 cl.length c1, .int .i64 bk, .slice A2 ch.length c2] ∧ ReadsInt W .i64 A1 cl.length cl ∧ ReadsInt W .i64 A2 ch.length ch
theorem RL.below {W W' : World} {d50 d51 : Bool} {v50 : Value} {cl ch : List Int} {bk : Int} (h : RL W d50 d51 v50 cl bk ch) (hb : Below W.heap.size W W') : RL W' d50 d51 v50 cl bk ch := fun a b => by
  obtain ⟨A1, c1, A2, c2, e, h1, h2⟩ := h a b
  exact ⟨A1, c1, A2, c2, e, h1.below hb, h2.below hb⟩
theorem less_at {w : World} {Ac Am AC AN : Option Addr} {cc cm cC cN : Nat} {C : List (List Int)} {M : List S54} (hC : Kd.C (Kd.slice 3 (Kd.int .i64)) w Ac C.length C) (hcc : C.length ≤ cc) (hMr : Kd.C k54 w Am M.length M) (hfC : ∀ c ∈ C, ∀ x ∈ c, Fits x) (hfM : ∀ m ∈ M, Fits m.f0) (hM : M.length ≤ 1048576) (hbC : ∀ c ∈ C, c.length ≤ 1048576)
    {f : Int → Option Int} (hLd : loadF C M 0 0 (fun _ => none) = some f) {lv x0 bk : Int} {F cl ch : List Int} (V : VI f C M M.length lv) (G : Good f C M x0 F ch) (hcl : cl = x0 :: restF x0 F) (hchl : ch.length ≤ 2 * M.length + 1)
    (h1 : ReadsInt w .i64 AC cl.length cl) (h2 : ReadsInt w .i64 AN ch.length ch) :
    Calls Try.prog 8 #[.slice Ac C.length cc, .slice Am M.length cm, .agg #[.slice AC cl.length cC, .int .i64 bk, .slice AN ch.length cN]] w fun e w' => Below w.heap.size w w' ∧ FirstOut w.heap.size w' (some (lessF f C M x0 cl ch)) e := by
  subst hcl
  have hm : ∀ y, y ∈ x0 :: restF x0 F → y ∈ F := fun y hy => G.perm.mem_iff.1 hy
  exact less_calls hC hcc hMr hfC hfM hM hbC f hLd x0 bk (restF x0 F) ch h1 h2 (by omega) (fun y hy => G.fall.fits y (hm y hy)) (fun y hy => V.false_of G.fall (hm y hy)) (G.perm.nodup_iff.2 G.fall.nodup) (fun y hy => G.pos y (hm y hy)) (fun y hy => G.one y (mem_restF.1 hy).1 (mem_restF.1 hy).2)
theorem teaches_at {w : World} {Ac Am AC AN : Option Addr} {cc cm cC cN : Nat} {C : List (List Int)} {M : List S54} (hC : Kd.C (Kd.slice 3 (Kd.int .i64)) w Ac C.length C) (hcc : C.length ≤ cc) (hMr : Kd.C k54 w Am M.length M) (hcm : M.length ≤ cm) (hfC : ∀ c ∈ C, ∀ x ∈ c, Fits x) (hM : M.length ≤ 1048576) (hCl : C.length ≤ 1048576) (hbC : ∀ c ∈ C, c.length ≤ 1048576)
    {f : Int → Option Int} {lv x0 bk : Int} {F cl ch : List Int} (V : VI f C M M.length lv) (G : Good f C M x0 F ch) (hcl : cl = x0 :: restF x0 F) (hbk : bk = backF f M (restF x0 F)) (h1 : ReadsInt w .i64 AC cl.length cl) (hcC : cl.length ≤ cC) (h2 : ReadsInt w .i64 AN ch.length ch) (hcN : ch.length ≤ cN) (hlN : ch.length ≤ 8796093022208) :
    Calls Try.prog 10 #[.agg #[.slice Ac C.length cc, .slice Am M.length cm], .agg #[.slice AC cl.length cC, .int .i64 bk, .slice AN ch.length cN]] w fun e w' => e = .returned (.bool true) ∧ Below w.heap.size w w' := by
  subst hcl hbk
  exact teaches_calls hC hcc hMr hcm hfC hM hCl hbC V G h1 hcC h2 hcN hlN
end Go.Proofs.Ytjjlcnjhmkackaa.T
set_option linter.unusedVariables false
set_option linter.unusedSimpArgs false
namespace Go.Proofs.Ytjjlcnjhmkackaa.T
open Go.RowKit Go.Proofs.YtjjlcnjhmkackaaW.PrintWords Go.Proofs.YtjjlcnjhmkackaaW.PrintLast Go.Proofs.YtjjlcnjhmkackaaW.PrintMore
open Go.Proofs.Ytjjlcnjhmkackaa.PA Go.MapII Go.Proofs

set_option maxRecDepth 100000 in
set_option maxHeartbeats 4000000 in
theorem law_calls : R.LawCalls := by
  intro w Ac Am cc cm C M hC hcc hMr hcm hfC hfM hCl hM hbC conflict hcf
  obtain ⟨R, hR⟩ : ∃ R, (loadF C M 0 0 (fun _ => none)).bind (fun f => firstF f C M conflict) = R := ⟨_, rfl⟩
  have hM' : M.length ≤ 1099511627776 := by omega
  have HCR := Aside0.mk hC
  have HMR := Aside0.mk hMr
  have HFC := Aside0.mk hfC
  have HFM := Aside0.mk hfM
  have HBC := Aside0.mk hbC
  have HR := Aside0.mk hR
  clear hC hMr hfC hfM hbC hR
  go_enter Try.func3, Try.ntmps3
  go_wp2
  obtain ⟨wA, hwA⟩ : ∃ wA, wA = w.alloc (.cells #[.slice Ac C.length cc, .slice Am M.length cm] 25) := ⟨_, rfl⟩
  have hbA : Below w.heap.size w wA := by rw [hwA]; exact below_alloc (Below.refl _ _) _
  have hzA : wA.heap.size = w.heap.size + 1 := by rw [hwA]; simp
  have hb5 : wA.heap[w.heap.size]? = some (.cells #[.slice Ac C.length cc, .slice Am M.length cm] 25 (0, 0)) := by rw [hwA]; exact heap_alloc_new _ _
  rw [← hwA]
  clear hwA
  have k0 : wA.cell? ⟨w.heap.size, 0, none⟩ = some (.slice Ac C.length cc) := by simp [World.cell?, hb5]
  have k1 : wA.cell? ⟨w.heap.size, 1, none⟩ = some (.slice Am M.length cm) := by simp [World.cell?, hb5]
  have HBA := Aside0.mk hbA
  have HK00 := Aside0.mk k0
  have HK01 := Aside0.mk k1
  clear hb5 hbA
  refine Reg.by_inv [0, 1, 3, 4, 6] [(2, []), (5, [2]), (7, [2, 5]), (8, [7]), (9, [8]), (10, [8]), (11, []), (12, [9, 11])] 8 [(13, true)] [] #[true, true, false, true, true, false, true, false, false, false, false, false, false, false] #[true, true, true, true, true, true, true, true, true, true, true, true, true, false]
    (fun W => Below wA.heap.size wA W) (fun l a w' => ∃ (d2 d5 d7 d8 d9 d10 d11 d12 : Bool) (v15 v18 v20 v12 v21 v22 v5 vC vN : Value) (b code : Int), l = #[true, true, d2, true, true, d5, true, d7, d8, d9, d10, d11, d12, false] ∧
      a = { tmps := List.toArray (.agg #[.slice Ac C.length cc, .slice Am M.length cm] :: .int .i64 conflict :: .pointer (some ⟨w.heap.size, 0, none⟩) :: undef :: .bool false :: v5 :: undef :: undef :: undef :: undef :: undef :: undef :: v12 :: .pointer (some ⟨w.heap.size, 0, none⟩) :: .slice Ac C.length cc :: v15 :: .pointer (some ⟨w.heap.size, 1, none⟩) :: .slice Am M.length cm :: v18 :: .int .i64 conflict :: v20 :: v21 :: v22 :: undef :: undef :: undef :: undef :: undef :: undef :: undef :: undef :: undef :: undef :: undef :: undef :: undef :: undef :: undef :: undef :: undef :: undef :: undef :: undef :: undef :: undef :: undef :: undef :: undef :: undef :: undef :: undef :: undef :: undef :: undef :: undef :: undef :: undef :: undef :: undef :: undef :: undef :: undef :: undef :: undef :: undef :: undef :: undef :: undef :: undef :: undef :: undef :: undef :: undef :: undef :: undef :: undef :: undef :: undef :: undef :: undef :: undef :: undef :: undef :: undef :: undef :: undef :: undef :: undef :: undef :: undef :: undef :: undef :: undef :: undef :: undef :: undef :: undef :: undef :: undef :: undef :: undef :: undef :: undef :: undef :: undef :: undef :: undef :: undef :: undef :: undef :: undef :: undef :: undef :: undef :: undef :: undef :: undef :: undef :: []), defers := [] } ∧
      RA C M wA.heap.size w' R d2 d5 d7 d8 d9 d10 d11 d12 v15 v18 v20 v12 v21 v22 v5 vC vN b code) (by kernel_rfl) (by kernel_rfl) (fun _ _ d _ _ h => by cases d <;> exact h) ⟨rfl, rfl, rfl, Nat.le_refl _, fun _ _ => rfl⟩ ?_ ?_ ?_
  · iterate 5
      refine Reg.to_held (v := ?_) rfl rfl rfl ?_ ?_
      rotate_left
      · intro W hW
        have h1 := pw_cell_below hW k0
        have h2 := pw_cell_below hW k1
        go_simp
        first | done | rfl
      go_frame
    refine Reg.to_nil ⟨false, false, false, false, false, false, false, false, _, _, _, _, _, _, _, undef, undef, 0, 0, rfl, rfl, ?_⟩
    exact ⟨by simp, by simp, by simp, by simp, by simp, by simp, by simp, by simp⟩
  · intro i D hmem l' a W hn hd hS hI
    obtain ⟨d2, d5, d7, d8, d9, d10, d11, d12, v15, v18, v20, v12, v21, v22, v5, vC, vN, b, code, rfl, rfl, hT⟩ := hI
    have hsW := hS.size
    simp only [List.mem_cons, Prod.mk.injEq, List.not_mem_nil, or_false] at hmem
    rcases hmem with ⟨rfl, rfl⟩ | ⟨rfl, rfl⟩ | ⟨rfl, rfl⟩ | ⟨rfl, rfl⟩ | ⟨rfl, rfl⟩ | ⟨rfl, rfl⟩ | ⟨rfl, rfl⟩ | ⟨rfl, rfl⟩
    · obtain rfl : d2 = false := by simpa using hn
      refine ⟨_, rfl, fun K hK => ?_⟩
      refine ite_on rfl ?_
      go_simp
      refine (twin_calls (w := W) (Kd.C_below HCR.out (HBA.out.trans (hS.mono (by omega)))) hcc hCl HBC.out).mono ?_
      rintro e W' ⟨g, rfl, hC1, hb⟩
      exact hK _ _ (hS.trans (hb.mono hsW)) ⟨true, d5, d7, d8, d9, d10, d11, d12, _, v18, v20, v12, v21, v22, v5, vC, vN, b, code, rfl, rfl, hT.set2 hb hC1⟩
    · obtain rfl : d5 = false := by simpa using hn
      refine ⟨_, rfl, fun K hK => ?_⟩
      refine ite_on rfl ?_
      go_simp
      refine (marks_calls (w := W) (Kd.C_below HMR.out (HBA.out.trans (hS.mono (by omega)))) hcm hM').mono ?_
      rintro e W' ⟨A, c, rfl, hc, hM1, hb⟩
      exact hK _ _ (hS.trans (hb.mono hsW)) ⟨d2, true, d7, d8, d9, d10, d11, d12, v15, _, v20, v12, v21, v22, v5, vC, vN, b, code, rfl, rfl, hT.set5 hb hc hM1⟩
    · obtain rfl : d7 = false := by simpa using hn
      obtain rfl : d2 = true := by simpa using hd 2 (by simp)
      obtain rfl : d5 = true := by simpa using hd 5 (by simp)
      obtain ⟨g, rfl, hC1⟩ := hT.f2 rfl rfl
      obtain ⟨A, c, rfl, hc, hM1⟩ := hT.f5 rfl rfl
      refine ⟨_, rfl, fun K hK => ?_⟩
      refine ite_on rfl ?_
      go_simp
      refine (first_calls (w := W) hC1 (Nat.le_refl _) hM1 HFC.out HFM.out hM HBC.out conflict hcf R HR.out).mono ?_
      rintro e W' ⟨hb, hF⟩
      obtain ⟨vC', b', vN', code', rfl, hA⟩ := Ans.of hF
      exact hK _ _ (hS.trans (hb.mono hsW)) ⟨true, true, true, d8, d9, d10, d11, d12, _, _, _, v12, v21, v22, v5, vC', vN', b', code', rfl, rfl, hT.set7 hb (hA.lower hsW)⟩
    · obtain rfl : d8 = false := by simpa using hn
      obtain rfl : d7 = true := by simpa using hd 7 (by simp)
      refine ⟨_, rfl, fun K hK => ?_⟩
      refine ite_on rfl ?_
      go_simp
      exact hK _ _ hS ⟨d2, d5, true, true, d9, d10, d11, d12, v15, v18, v20, _, v21, v22, v5, vC, vN, b, code, rfl, rfl, hT.set8⟩
    · obtain rfl : d9 = false := by simpa using hn
      obtain rfl : d8 = true := by simpa using hd 8 (by simp)
      obtain ⟨rfl, h7⟩ := hT.f8 rfl
      obtain ⟨rfl, _⟩ := hT.f7 h7
      refine ⟨_, rfl, fun K hK => ?_⟩
      refine ite_on rfl ?_
      go_simp
      exact hK _ _ hS ⟨d2, d5, d7, true, true, d10, d11, d12, v15, v18, _, _, _, v22, v5, vC, vN, b, code, rfl, rfl, hT.set9⟩
    · obtain rfl : d10 = false := by simpa using hn
      obtain rfl : d8 = true := by simpa using hd 8 (by simp)
      obtain ⟨rfl, h7⟩ := hT.f8 rfl
      obtain ⟨rfl, _⟩ := hT.f7 h7
      refine ⟨_, rfl, fun K hK => ?_⟩
      refine ite_on rfl ?_
      go_simp
      exact hK _ _ hS ⟨d2, d5, d7, true, d9, true, d11, d12, v15, v18, _, _, v21, _, v5, vC, vN, b, code, rfl, rfl, hT.set10⟩
    · obtain rfl : d11 = false := by simpa using hn
      refine ⟨_, rfl, fun K hK => ?_⟩
      refine ite_on rfl ?_
      go_simp
      exact hK _ _ (below_alloc hS _) ⟨d2, d5, d7, d8, d9, d10, true, d12, v15, v18, v20, v12, v21, v22, _, vC, vN, b, code, rfl, rfl, hT.set11 hsW⟩
    · obtain rfl : d12 = false := by simpa using hn
      obtain rfl : d9 = true := by simpa using hd 9 (by simp)
      obtain rfl : d11 = true := by simpa using hd 11 (by simp)
      obtain ⟨rfl, h8⟩ := hT.f9 rfl
      subst h8
      have h7 := (hT.f8 rfl).2
      subst h7
      obtain ⟨p, rfl, hp⟩ := hT.f11 rfl rfl
      obtain ⟨e0, e1, e2, z⟩ := cells3 hp.2
      have z0 := z 0
      have z1 := z 1
      have z2 := z 2
      obtain ⟨A1, n1, c1, rfl⟩ := (hT.f7 rfl).2.sC
      obtain ⟨A2, n2, c2, rfl⟩ := (hT.f7 rfl).2.sN
      refine ⟨_, rfl, fun K hK => ?_⟩
      refine ite_on rfl ?_
      go_simp
      exact hK _ _ (below_set3 hS hp.1 _ _ _) ⟨d2, d5, true, true, true, d10, true, true, v15, v18, v20, v12, _, v22, _, _, _, b, code, rfl, rfl, hT.set12 rfl hp⟩
  · intro a W hS hI
    obtain ⟨d2, d5, d7, d8, d9, d10, d11, d12, v15, v18, v20, v12, v21, v22, v5, vC, vN, b, code, hl, rfl, hT⟩ := hI
    obtain ⟨rfl, rfl, rfl, rfl, rfl, rfl, rfl, rfl⟩ : d2 = true ∧ d5 = true ∧ d7 = true ∧ d8 = true ∧ d9 = true ∧ d10 = true ∧ d11 = true ∧ d12 = true := by simpa using hl.symm
    obtain ⟨rfl, _⟩ := hT.f10 rfl
    obtain ⟨_, _, p, rfl, hp⟩ := hT.f12 rfl
    obtain ⟨_, hA⟩ := hT.f7 rfl
    refine Reg.eff_on rfl rfl (fun K hK => ?_)
    go_simp
    refine hK _ _ (fun _ => hS) ?_
    clear hK
    refine Reg.nil_ ?_
    have HAns := Aside0.mk hA
    have HP3 := Aside0.mk hp
    have HBW : Aside0 (Below wA.heap.size wA W) := ⟨hS⟩
    have hsW := hS.size
    clear hT hA hp hS hl
    have p2 := pw_cell_below HBW.out k0
    have p3 := pw_cell_below HBW.out k1
    clear p2 p3 k0 k1
    rcases R with _ | ⟨cl, bk, ch⟩
    · obtain ⟨e1, e2, e3, hcode⟩ := HAns.out.bad rfl
      subst e1 e2 e3
      have hcb : (code != 0) = true := by simpa using hcode
      clear hcode
      go_wp2_with (first
        | (go_at_call 7; refine (lives_calls _).mono ?_; rintro e w2 ⟨rfl, hb2⟩; obtain ⟨q0, q1, q2, _⟩ := cells3 (HP3.out.below hb2).2; have HB2 : Aside0 (Below w.heap.size w w2) := ⟨(HBA.out.trans (HBW.out.mono (by omega))).trans (hb2.mono (by omega))⟩; clear hb2))
      go_ret
      exact ⟨rfl, HB2.out⟩
    · obtain ⟨e1, e2, o1, o2⟩ := HAns.out.fine _ _ _ rfl
      subst e1 e2
      obtain ⟨AC, cC, rfl⟩ := own_slice o1
      obtain ⟨AN, cN, rfl⟩ := own_slice o2
      have hRR := HR.out
      obtain ⟨f, hLd, hF1⟩ := Option.bind_eq_some_iff.1 hRR
      obtain ⟨lv, hVI⟩ := loadF_VI HFM.out hLd
      obtain ⟨x0, F, hcl, hbk, hG, hchl⟩ := hVI.firstF_good HFC.out (hVI.places hM') hF1
      have HLd := Aside0.mk hLd
      have VV := Aside0.mk hVI
      have GG := Aside0.mk hG
      have HO1 := Aside0.mk o1
      have HO2 := Aside0.mk o2
      have HCLE := Aside0.mk hcl
      have HBK := Aside0.mk hbk
      have HCH := Aside0.mk hchl
      obtain ⟨F', chs, hLess, hG', hsub, hchs⟩ := hVI.lessF_good HFC.out (hVI.places hM') hG
      rw [← hcl] at hLess
      obtain ⟨cl', hcl'⟩ : ∃ cl', cl' = x0 :: restF x0 F' := ⟨_, rfl⟩
      obtain ⟨bk', hbk'⟩ : ∃ bk', bk' = backF f M (restF x0 F') := ⟨_, rfl⟩
      obtain ⟨ch', hch'⟩ : ∃ ch', ch' = ch ++ chs := ⟨_, rfl⟩
      rw [← hcl', ← hbk', ← hch'] at hLess
      rw [← hch'] at hG'
      have HLess := Aside0.mk hLess
      have HCLE' := Aside0.mk hcl'
      have HBK' := Aside0.mk hbk'
      have GG' := Aside0.mk hG'
      have hsq : M.length * (M.length + 1) ≤ 1048576 * 1048577 := Nat.mul_le_mul hM (by omega)
      have hln : ch.length ≤ 8796093022208 := by omega
      have hln' : ch'.length ≤ 8796093022208 := by rw [hch', List.length_append]; omega
      have hFl : F.length ≤ M.length := hG.fall.len (hVI.vd HFC.out)
      have hFl' : F'.length ≤ F.length := hG'.fall.nodup.length_le_of_subset hsub
      have hcl1 : cl.length ≤ F.length := by rw [hcl, hG.perm.length_eq]; omega
      have hcl2 : F.length ≤ cl.length := by rw [hcl, hG.perm.length_eq]; omega
      have hcl3 : cl'.length ≤ F'.length := by rw [hcl', hG'.perm.length_eq]; omega
      have hcl4 : 0 < cl.length := by rw [hcl]; simp
      have hcl5 : 0 < cl'.length := by rw [hcl']; simp
      have HSUB : Aside0 (∀ y ∈ cl', y ∈ cl) := ⟨fun y hy => by
        rw [hcl'] at hy
        rw [hcl]
        exact hG.perm.mem_iff.2 (hsub y (hG'.perm.mem_iff.1 hy))⟩
      clear hRR hLd hF1 hVI hG o1 o2 HR HAns hcl hbk hchl hLess hG' hsub hchs hcl' hbk' hch'
      go_wp2_with (first
        | (go_at_call 7; refine (lives_calls _).mono ?_; rintro e w2 ⟨rfl, hb2⟩; have HP2 := Aside0.mk (HP3.out.below hb2); have HB2 : Aside0 (Below wA.heap.size wA w2) := ⟨HBW.out.trans (hb2.mono (by omega))⟩; have HC2 := Aside0.mk (pw_own_below HO1.out hb2); have HN2 := Aside0.mk (pw_own_below HO2.out hb2); have hz2 := hb2.size; clear hb2))
      have s0 := pw_cell_below HB2.out HK00.out
      have s1 := pw_cell_below HB2.out HK01.out
      obtain ⟨t0, t1, t2, _⟩ := cells3 HP2.out.2
      refine Reg.by_inv [0, 1, 3, 4, 6] [(2, []), (5, [2]), (7, [5]), (8, [2, 5, 7]), (9, [8]), (10, [9]), (11, [9]), (12, []), (13, [10, 12])] 9 [(14, true)] [] #[true, true, false, true, true, false, true, false, false, false, false, false, false, false, false] #[true, true, true, true, true, true, true, true, true, true, true, true, true, true, false]
        (fun W => Below w2.heap.size w2 W) (fun l a w' => ∃ (d2 d5 d7 d8 d9 d10 d11 d12 d13 : Bool) (x45 x48 x50 x51 x42 x52 x53 x7 vC vN : Value) (bb code : Int), l = #[true, true, d2, true, true, d5, true, d7, d8, d9, d10, d11, d12, d13, false] ∧
          a = { tmps := List.toArray (.agg #[.slice Ac C.length cc, .slice Am M.length cm] :: .int .i64 conflict :: .pointer (some ⟨w.heap.size, 0, none⟩) :: undef :: .bool false :: .pointer (some ⟨p, 0, none⟩) :: .int .i64 0 :: x7 :: undef :: undef :: undef :: undef :: v12 :: .pointer (some ⟨w.heap.size, 0, none⟩) :: .slice Ac C.length cc :: v15 :: .pointer (some ⟨w.heap.size, 1, none⟩) :: .slice Am M.length cm :: v18 :: .int .i64 conflict :: .tuple #[.agg #[.slice AC cl.length cC, .int .i64 b, .slice AN ch.length cN], .int .i64 0] :: v21 :: .int .i64 0 :: .bool true :: .bool false :: .int .i64 0 :: .bool false :: undef :: undef :: undef :: undef :: undef :: undef :: undef :: undef :: undef :: undef :: undef :: undef :: undef :: undef :: undef :: x42 :: .pointer (some ⟨w.heap.size, 0, none⟩) :: .slice Ac C.length cc :: x45 :: .pointer (some ⟨w.heap.size, 1, none⟩) :: .slice Am M.length cm :: x48 :: .agg #[.slice AC cl.length cC, .int .i64 b, .slice AN ch.length cN] :: x50 :: x51 :: x52 :: x53 :: undef :: undef :: undef :: undef :: undef :: undef :: undef :: undef :: undef :: undef :: undef :: undef :: undef :: undef :: undef :: undef :: undef :: undef :: undef :: undef :: undef :: undef :: undef :: undef :: undef :: undef :: undef :: undef :: undef :: undef :: undef :: undef :: undef :: undef :: undef :: undef :: undef :: undef :: undef :: undef :: undef :: undef :: undef :: undef :: undef :: undef :: undef :: undef :: undef :: undef :: undef :: undef :: undef :: undef :: undef :: undef :: undef :: undef :: undef :: undef :: undef :: undef :: undef :: undef :: []), defers := [] } ∧
          RA C M w2.heap.size w' (some (cl', bk', ch')) d2 d5 d8 d9 d10 d11 d12 d13 x45 x48 x51 x42 x52 x53 x7 vC vN bb code ∧ RL w' d7 d8 x50 cl b ch) (by kernel_rfl) (by kernel_rfl) (fun _ _ d _ _ h => by cases d <;> exact h) ⟨rfl, rfl, rfl, Nat.le_refl _, fun _ _ => rfl⟩ ?_ ?_ ?_
      · iterate 5
          refine Reg.to_held (v := ?_) rfl rfl rfl ?_ ?_
          rotate_left
          · intro W hW
            have h1 := pw_cell_below hW s0
            have h2 := pw_cell_below hW s1
            have h3 := pw_cell_below hW t0
            have h4 := pw_cell_below hW t1
            have h5 := pw_cell_below hW t2
            go_simp
            first | done | rfl
          go_frame
        refine Reg.to_nil ⟨false, false, false, false, false, false, false, false, false, _, _, _, _, _, _, _, _, undef, undef, 0, 0, rfl, rfl, ?_, fun a => (by cases a)⟩
        exact ⟨by simp, by simp, by simp, by simp, by simp, by simp, by simp, by simp⟩
      · intro i D hmem l' a W hn hd hS hI
        obtain ⟨d2, d5, d7, d8, d9, d10, d11, d12, d13, x45, x48, x50, x51, x42, x52, x53, x7, vC, vN, bb, code, rfl, rfl, hT, hL⟩ := hI
        have hsW := hS.size
        have hBw : Below w.heap.size w W := (HBA.out.trans (HB2.out.mono (by omega))).trans (hS.mono (by omega))
        simp only [List.mem_cons, Prod.mk.injEq, List.not_mem_nil, or_false] at hmem
        rcases hmem with ⟨rfl, rfl⟩ | ⟨rfl, rfl⟩ | ⟨rfl, rfl⟩ | ⟨rfl, rfl⟩ | ⟨rfl, rfl⟩ | ⟨rfl, rfl⟩ | ⟨rfl, rfl⟩ | ⟨rfl, rfl⟩ | ⟨rfl, rfl⟩
        · obtain rfl : d2 = false := by simpa using hn
          refine ⟨_, rfl, fun K hK => ?_⟩
          refine ite_on rfl ?_
          go_simp
          refine (twin_calls (w := W) (Kd.C_below HCR.out hBw) hcc hCl HBC.out).mono ?_
          rintro e W' ⟨g, rfl, hC1, hb⟩
          exact hK _ _ (hS.trans (hb.mono hsW)) ⟨true, d5, d7, d8, d9, d10, d11, d12, d13, _, x48, x50, x51, x42, x52, x53, x7, vC, vN, bb, code, rfl, rfl, hT.set2 hb hC1, hL.below hb⟩
        · obtain rfl : d5 = false := by simpa using hn
          refine ⟨_, rfl, fun K hK => ?_⟩
          refine ite_on rfl ?_
          go_simp
          refine (marks_calls (w := W) (Kd.C_below HMR.out hBw) hcm hM').mono ?_
          rintro e W' ⟨A, c, rfl, hc, hM1, hb⟩
          exact hK _ _ (hS.trans (hb.mono hsW)) ⟨d2, true, d7, d8, d9, d10, d11, d12, d13, x45, _, x50, x51, x42, x52, x53, x7, vC, vN, bb, code, rfl, rfl, hT.set5 hb hc hM1, hL.below hb⟩
        · obtain rfl : d7 = false := by simpa using hn
          refine ⟨_, rfl, fun K hK => ?_⟩
          refine ite_on rfl ?_
          go_simp
          refine (learnt_calls (w := W) b ((own_reads' HC2.out).below hS) (own_cap HC2.out) ((own_reads' HN2.out).below hS) (own_cap HN2.out) (by omega) hln).mono ?_
          rintro e W' ⟨A1, c1, A2, c2, rfl, hr1, hr2, hb⟩
          exact hK _ _ (hS.trans (hb.mono hsW)) ⟨d2, d5, true, d8, d9, d10, d11, d12, d13, x45, x48, _, x51, x42, x52, x53, x7, vC, vN, bb, code, rfl, rfl, hT.below hb, fun _ _ => ⟨A1, c1, A2, c2, rfl, hr1, hr2⟩⟩
        · obtain rfl : d8 = false := by simpa using hn
          obtain rfl : d2 = true := by simpa using hd 2 (by simp)
          obtain rfl : d5 = true := by simpa using hd 5 (by simp)
          obtain rfl : d7 = true := by simpa using hd 7 (by simp)
          obtain ⟨g, rfl, hC1⟩ := hT.f2 rfl rfl
          obtain ⟨A, c, rfl, hc, hM1⟩ := hT.f5 rfl rfl
          obtain ⟨A1, c1, A2, c2, rfl, hr1, hr2⟩ := hL rfl rfl
          refine ⟨_, rfl, fun K hK => ?_⟩
          refine ite_on rfl ?_
          go_simp
          refine (less_at (w := W) hC1 (Nat.le_refl _) hM1 HFC.out HFM.out hM HBC.out HLd.out VV.out GG.out HCLE.out HCH.out hr1 hr2).mono ?_
          rw [HLess.out]
          rintro e W' ⟨hb, hF⟩
          obtain ⟨vC', b', vN', code', rfl, hA⟩ := Ans.of hF
          exact hK _ _ (hS.trans (hb.mono hsW)) ⟨true, true, true, true, d9, d10, d11, d12, d13, _, _, _, _, x42, x52, x53, x7, vC', vN', b', code', rfl, rfl, hT.set7 hb (hA.lower hsW), fun _ a => (by cases a)⟩
        · obtain rfl : d9 = false := by simpa using hn
          obtain rfl : d8 = true := by simpa using hd 8 (by simp)
          refine ⟨_, rfl, fun K hK => ?_⟩
          refine ite_on rfl ?_
          go_simp
          exact hK _ _ hS ⟨d2, d5, d7, true, true, d10, d11, d12, d13, x45, x48, x50, x51, _, x52, x53, x7, vC, vN, bb, code, rfl, rfl, hT.set8, hL⟩
        · obtain rfl : d10 = false := by simpa using hn
          obtain rfl : d9 = true := by simpa using hd 9 (by simp)
          obtain ⟨rfl, h7⟩ := hT.f8 rfl
          obtain ⟨rfl, _⟩ := hT.f7 h7
          refine ⟨_, rfl, fun K hK => ?_⟩
          refine ite_on rfl ?_
          go_simp
          exact hK _ _ hS ⟨d2, d5, d7, d8, true, true, d11, d12, d13, x45, x48, x50, _, _, _, x53, x7, vC, vN, bb, code, rfl, rfl, hT.set9, hL⟩
        · obtain rfl : d11 = false := by simpa using hn
          obtain rfl : d9 = true := by simpa using hd 9 (by simp)
          obtain ⟨rfl, h7⟩ := hT.f8 rfl
          obtain ⟨rfl, _⟩ := hT.f7 h7
          refine ⟨_, rfl, fun K hK => ?_⟩
          refine ite_on rfl ?_
          go_simp
          exact hK _ _ hS ⟨d2, d5, d7, d8, true, d10, true, d12, d13, x45, x48, x50, _, _, x52, _, x7, vC, vN, bb, code, rfl, rfl, hT.set10, hL⟩
        · obtain rfl : d12 = false := by simpa using hn
          refine ⟨_, rfl, fun K hK => ?_⟩
          refine ite_on rfl ?_
          go_simp
          exact hK _ _ (below_alloc hS _) ⟨d2, d5, d7, d8, d9, d10, d11, true, d13, x45, x48, x50, x51, x42, x52, x53, _, vC, vN, bb, code, rfl, rfl, hT.set11 hsW, hL.below (below_alloc (Below.refl _ _) _)⟩
        · obtain rfl : d13 = false := by simpa using hn
          obtain rfl : d10 = true := by simpa using hd 10 (by simp)
          obtain rfl : d12 = true := by simpa using hd 12 (by simp)
          obtain ⟨rfl, h8⟩ := hT.f9 rfl
          subst h8
          have h7 := (hT.f8 rfl).2
          subst h7
          obtain ⟨q, rfl, hp⟩ := hT.f11 rfl rfl
          obtain ⟨e0, e1, e2, z⟩ := cells3 hp.2
          have z0 := z 0
          have z1 := z 1
          have z2 := z 2
          obtain ⟨A1, n1, c1, rfl⟩ := (hT.f7 rfl).2.sC
          obtain ⟨A2, n2, c2, rfl⟩ := (hT.f7 rfl).2.sN
          refine ⟨_, rfl, fun K hK => ?_⟩
          refine ite_on rfl ?_
          go_simp
          exact hK _ _ (below_set3 hS hp.1 _ _ _) ⟨d2, d5, d7, true, true, true, d11, true, true, x45, x48, x50, x51, x42, _, x53, _, _, _, bb, code, rfl, rfl, hT.set12 rfl hp, fun _ a => (by cases a)⟩
      · intro a W hS hI
        obtain ⟨d2, d5, d7, d8, d9, d10, d11, d12, d13, x45, x48, x50, x51, x42, x52, x53, x7, vC, vN, bb, code, hl, rfl, hT, _⟩ := hI
        obtain ⟨rfl, rfl, rfl, rfl, rfl, rfl, rfl, rfl, rfl⟩ : d2 = true ∧ d5 = true ∧ d7 = true ∧ d8 = true ∧ d9 = true ∧ d10 = true ∧ d11 = true ∧ d12 = true ∧ d13 = true := by simpa using hl.symm
        obtain ⟨rfl, _⟩ := hT.f10 rfl
        obtain ⟨_, _, q, rfl, hp⟩ := hT.f12 rfl
        obtain ⟨_, hA⟩ := hT.f7 rfl
        obtain ⟨e1, e2, o1, o2⟩ := hA.fine _ _ _ rfl
        subst e1 e2
        obtain ⟨AC', cC', rfl⟩ := own_slice o1
        obtain ⟨AN', cN', rfl⟩ := own_slice o2
        refine Reg.eff_on rfl rfl (fun K hK => ?_)
        go_simp
        refine hK _ _ (fun _ => hS) ?_
        clear hK
        refine Reg.nil_ ?_
        have HO1' := Aside0.mk o1
        have HO2' := Aside0.mk o2
        have HQ3 := Aside0.mk hp
        have HB3 : Aside0 (Below w2.heap.size w2 W) := ⟨hS⟩
        have hsW := hS.size
        clear hT hA hp hS hl o1 o2 s0 s1 t0 t1 t2
        have HBa : Aside0 (Below wA.heap.size wA W) := ⟨HB2.out.trans (HB3.out.mono (by omega))⟩
        have HBw : Aside0 (Below w.heap.size w W) := ⟨HBA.out.trans (HBa.out.mono (by omega))⟩
        go_wp2
        have s0 := pw_cell_below HBa.out HK00.out
        have s1 := pw_cell_below HBa.out HK01.out
        obtain ⟨t0, t1, t2, _⟩ := cells3 (HP2.out.below HB3.out).2
        obtain ⟨y0, y1, y2, _⟩ := cells3 HQ3.out.2
        obtain ⟨ad, e0, hx⟩ := ((own_reads' HC2.out).below HB3.out).at_ 0 (Int.le_refl _) (by omega)
        subst e0
        obtain ⟨ad', e0', hx'⟩ := (own_reads' HO1'.out).at_ 0 (Int.le_refl _) (by omega)
        subst e0'
        have px : W.cell? ad = some (.int .i64 x0) := by
          have h := hx
          rw [HCLE.out] at h
          simpa [Addr.add, rd] using h
        have px' : W.cell? ad' = some (.int .i64 x0) := by
          have h := hx'
          rw [HCLE'.out] at h
          simpa [Addr.add, rd] using h
        clear hx hx'
        have hgl : decide (cl'.length > cl.length) = false := decide_eq_false (by omega)
        have hgl2 : decide ((cl'.length : Int) > (cl.length : Int)) = false := decide_eq_false (by omega)
        refine Reg.by_order [(0, false), (1, false), (2, false), (3, false), (4, false), (5, true), (6, false), (7, false), (8, false), (9, false), (10, false), (11, true), (12, false), (13, false), (14, false), (15, false), (16, false), (17, false), (18, false), (19, false), (20, false), (21, false), (22, false), (23, false), (24, false), (25, false), (26, false), (27, false), (28, false), (29, false), (30, false), (31, false), (32, false), (33, false)] [] (fun W => W.cell? ⟨w.heap.size, 0, none⟩ = some (.slice Ac C.length cc) ∧ W.cell? ⟨w.heap.size, 1, none⟩ = some (.slice Am M.length cm) ∧ W.cell? ⟨p, 0, none⟩ = some (.slice (some ad) cl.length cC) ∧ W.cell? ⟨p, 1, none⟩ = some (.int .i64 b) ∧ W.cell? ⟨p, 2, none⟩ = some (.slice AN ch.length cN) ∧ W.cell? ⟨q, 0, none⟩ = some (.slice (some ad') cl'.length cC') ∧ W.cell? ⟨q, 1, none⟩ = some (.int .i64 bb) ∧ W.cell? ⟨q, 2, none⟩ = some (.slice AN' ch'.length cN') ∧ W.cell? ad = some (.int .i64 x0) ∧ W.cell? ad' = some (.int .i64 x0))
          (by kernel_rfl) (by kernel_rfl) (fun _ _ d _ _ h => by cases d <;> exact h) ⟨s0, s1, t0, t1, t2, y0, y1, y2, px, px'⟩ ?_
        iterate 5
          refine Reg.held_at (v := ?_) rfl rfl rfl ?_ ?_
          rotate_left
          · intro W7 hW7
            obtain ⟨h1, h2, h3, h4, h5, h6, h7, h8, h9, h10⟩ := hW7
            go_simp
            first | done | rfl
          go_frame
        refine Reg.eff_on rfl rfl (fun K hK => ?_)
        go_simp
        refine (teaches_at (w := W.drew) (Kd.C_below HCR.out (HBw.out.trans ⟨rfl, rfl, rfl, Nat.le_refl _, fun _ _ => rfl⟩)) hcc (Kd.C_below HMR.out (HBw.out.trans ⟨rfl, rfl, rfl, Nat.le_refl _, fun _ _ => rfl⟩)) hcm HFC.out hM hCl HBC.out VV.out GG.out HCLE.out HBK.out (((own_reads' HC2.out).below HB3.out).drewN 1) (own_cap HC2.out) (((own_reads' HN2.out).below HB3.out).drewN 1) (own_cap HN2.out) hln).mono ?_
        rintro e W1 ⟨rfl, hb⟩
        have hb1 : Below W.heap.size W W1 := (show Below W.heap.size W W.drew from ⟨rfl, rfl, rfl, Nat.le_refl _, fun _ _ => rfl⟩).trans hb
        refine hK _ _ (fun _ => ⟨pw_cell_below hb1 s0, pw_cell_below hb1 s1, pw_cell_below hb1 t0, pw_cell_below hb1 t1, pw_cell_below hb1 t2, pw_cell_below hb1 y0, pw_cell_below hb1 y1, pw_cell_below hb1 y2, pw_cell_below hb1 px, pw_cell_below hb1 px'⟩) ?_
        clear hK hb
        iterate 5
          refine Reg.held_at (v := ?_) rfl rfl rfl ?_ ?_
          rotate_left
          · intro W7 hW7
            obtain ⟨h1, h2, h3, h4, h5, h6, h7, h8, h9, h10⟩ := hW7
            go_simp
            first | done | rfl
          go_frame
        have hz1 := hb1.size
        refine Reg.eff_on rfl rfl (fun K hK => ?_)
        go_simp
        refine (teaches_at (w := W1) (Kd.C_below HCR.out (HBw.out.trans (hb1.mono (by omega)))) hcc (Kd.C_below HMR.out (HBw.out.trans (hb1.mono (by omega)))) hcm HFC.out hM hCl HBC.out VV.out GG'.out HCLE'.out HBK'.out ((own_reads' HO1'.out).below hb1) (own_cap HO1'.out) ((own_reads' HO2'.out).below hb1) (own_cap HO2'.out) hln').mono ?_
        rintro e W2 ⟨rfl, hb⟩
        have hb2 : Below W.heap.size W W2 := hb1.trans (hb.mono hb1.size)
        refine hK _ _ (fun _ => ⟨pw_cell_below hb2 s0, pw_cell_below hb2 s1, pw_cell_below hb2 t0, pw_cell_below hb2 t1, pw_cell_below hb2 t2, pw_cell_below hb2 y0, pw_cell_below hb2 y1, pw_cell_below hb2 y2, pw_cell_below hb2 px, pw_cell_below hb2 px'⟩) ?_
        clear hK hb hb1 hz1
        iterate 22
          refine Reg.held_at (v := ?_) rfl rfl rfl ?_ ?_
          rotate_left
          · intro W7 hW7
            obtain ⟨h1, h2, h3, h4, h5, h6, h7, h8, h9, h10⟩ := hW7
            go_simp
            first | done | rfl
          go_frame
        refine Reg.nil_ ?_
        have HBX := Aside0.mk hb2
        have HT0 := Aside0.mk t0
        have HY0 := Aside0.mk y0
        have HRd := Aside0.mk ((own_reads' HC2.out).below HB3.out)
        have HRd' := Aside0.mk (own_reads' HO1'.out)
        clear hb2 t0 t1 t2 y0 y1 y2 px px' s0 s1 hgl hgl2
        go_wp2
        go_loopw [9] (fun i wr => ∃ (j : Nat), j ≤ cl'.length ∧ i = .int .i64 j ∧ Aside0 (Below W.heap.size W wr)) (fun i _ => cl'.length - (intOf i).toNat)
        case atStart => exact ⟨0, Nat.zero_le _, rfl, HBX⟩
        case round =>
          obtain ⟨j, hj, rfl, HBj⟩ := hrel
          have y0 := pw_cell_below HBj.out HY0.out
          have t0 := pw_cell_below HBj.out HT0.out
          by_cases hlj : j < cl'.length
          · obtain ⟨ad2, e2, hx⟩ := (HRd'.out.below HBj.out).at_ (j : Int) (by omega) (by omega)
            cases e2
            obtain ⟨y, hy⟩ : ∃ y, y = rd cl' (j : Int) := ⟨_, rfl⟩
            have HYM : Aside0 (y ∈ cl) := ⟨HSUB.out y (by rw [hy]; exact rd_mem hlj)⟩
            rw [← hy, Int.toNat_natCast] at hx
            have HX := Aside0.mk hx
            clear hy hx
            go_wp2
            obtain ⟨wo, hwo⟩ : ∃ wo : World, wo = wr := ⟨_, rfl⟩
            rw [← hwo] at HBj HX y0 t0 ⊢
            clear hwo wr
            have HT0 := Aside0.mk t0
            have HY0 := Aside0.mk y0
            clear t0 y0
            go_loopw [10, 11] (fun fd k wr => ∃ (n : Nat), n ≤ cl.length ∧ k = .int .i64 n ∧ fd = .bool (decide (y ∈ cl.take n)) ∧ Aside0 (Below wo.heap.size wo wr)) (fun _ k _ => cl.length - (intOf k).toNat)
            case atStart => exact ⟨0, Nat.zero_le _, rfl, by simp, ⟨Below.refl _ _⟩⟩
            case round =>
              obtain ⟨n, hn, rfl, rfl, HBn⟩ := hrel
              have y0 := pw_cell_below HBn.out HY0.out
              have t0 := pw_cell_below HBn.out HT0.out
              have hx := pw_cell_below HBn.out HX.out
              by_cases hln : n < cl.length
              · obtain ⟨ad3, e3, hz⟩ := (HRd.out.below (HBj.out.trans (HBn.out.mono HBj.out.size))).at_ (n : Int) (by omega) (by omega)
                cases e3
                have HTK := Aside0.mk (take_rd hln)
                obtain ⟨z, hzd⟩ : ∃ z, z = rd cl (n : Int) := ⟨_, rfl⟩
                rw [← hzd] at HTK hz
                rw [Int.toNat_natCast] at hz
                clear hzd
                by_cases hin : y ∈ cl.take n
                · have hd : decide (y ∈ cl.take n) = true := decide_eq_true hin
                  have HD : Aside0 (decide (y ∈ cl.take (n + 1)) = true) := ⟨by rw [HTK.out]; exact decide_eq_true (List.mem_append_left _ hin)⟩
                  rw [hd]
                  clear hd hin
                  go_wp2
                  refine Reg.by_order [(0, false), (1, false), (2, false), (3, false), (4, false), (5, false), (6, false), (7, false), (8, false), (9, false), (10, false), (11, false), (12, false), (13, false), (14, false)] [] (fun W => W.cell? ⟨p, 0, none⟩ = some (.slice (some ad) cl.length cC) ∧ W.cell? ⟨q, 0, none⟩ = some (.slice (some ad') cl'.length cC') ∧ W.cell? (ad.add n) = some (.int .i64 z) ∧ W.cell? (ad'.add j) = some (.int .i64 y)) (by kernel_rfl) (by kernel_rfl) (fun _ _ d _ _ h => by cases d <;> exact h) ⟨t0, y0, hz, hx⟩ ?_
                  iterate 2
                    refine Reg.held_at (v := ?_) rfl rfl rfl ?_ ?_
                    rotate_left
                    · intro W7 hW7
                      obtain ⟨h1, h2, h3, h4⟩ := hW7
                      go_simp
                      first | done | rfl
                    go_frame
                  iterate 11
                    refine Reg.off_at rfl rfl rfl ?_
                    go_frame
                  iterate 2
                    refine Reg.held_at (v := ?_) rfl rfl rfl ?_ ?_
                    rotate_left
                    · intro W7 hW7
                      obtain ⟨h1, h2, h3, h4⟩ := hW7
                      go_simp
                      first | done | rfl
                    go_frame
                  refine Reg.nil_ ?_
                  go_wp2
                  go_roundw
                  case rel => exact ⟨n + 1, by omega, by go_num, by rw [HD.out], ⟨HBn.out.trans ⟨rfl, rfl, rfl, Nat.le_refl _, fun _ _ => rfl⟩⟩⟩
                  case measure => simp [intOf]; omega
                · have hd : decide (y ∈ cl.take n) = false := decide_eq_false hin
                  rw [hd]
                  by_cases hzy : z = y
                  · subst hzy
                    have HD : Aside0 (decide (z ∈ cl.take (n + 1)) = true) := ⟨by rw [HTK.out]; exact decide_eq_true (List.mem_append_right _ (by simp))⟩
                    clear hd hin
                    go_wp2
                    refine Reg.by_order [(0, false), (1, false), (2, false), (3, false), (4, false), (5, false), (6, false), (7, false), (8, false), (9, false), (10, false), (11, false), (12, false), (13, false), (14, false)] [] (fun W => W.cell? ⟨p, 0, none⟩ = some (.slice (some ad) cl.length cC) ∧ W.cell? ⟨q, 0, none⟩ = some (.slice (some ad') cl'.length cC') ∧ W.cell? (ad.add n) = some (.int .i64 z) ∧ W.cell? (ad'.add j) = some (.int .i64 z)) (by kernel_rfl) (by kernel_rfl) (fun _ _ d _ _ h => by cases d <;> exact h) ⟨t0, y0, hz, hx⟩ ?_
                    iterate 15
                      refine Reg.held_at (v := ?_) rfl rfl rfl ?_ ?_
                      rotate_left
                      · intro W7 hW7
                        obtain ⟨h1, h2, h3, h4⟩ := hW7
                        go_simp
                        first | done | rfl
                      go_frame
                    refine Reg.nil_ ?_
                    go_wp2
                    go_roundw
                    case rel => exact ⟨n + 1, by omega, by go_num, by rw [HD.out], ⟨HBn.out.trans ⟨rfl, rfl, rfl, Nat.le_refl _, fun _ _ => rfl⟩⟩⟩
                    case measure => simp [intOf]; omega
                  · have HD : Aside0 (decide (y ∈ cl.take (n + 1)) = false) := ⟨by rw [HTK.out]; exact decide_eq_false (fun h => by rcases List.mem_append.1 h with h | h; exact hin h; exact hzy (List.mem_singleton.1 h).symm)⟩
                    have hzb : (z == y) = false := beq_eq_false_iff_ne.2 hzy
                    clear hd hin hzy
                    go_wp2
                    refine Reg.by_order [(0, false), (1, false), (2, false), (3, false), (4, false), (5, false), (6, false), (7, false), (8, false), (9, false), (10, false), (11, false), (12, false), (13, false), (14, false)] [] (fun W => W.cell? ⟨p, 0, none⟩ = some (.slice (some ad) cl.length cC) ∧ W.cell? ⟨q, 0, none⟩ = some (.slice (some ad') cl'.length cC') ∧ W.cell? (ad.add n) = some (.int .i64 z) ∧ W.cell? (ad'.add j) = some (.int .i64 y)) (by kernel_rfl) (by kernel_rfl) (fun _ _ d _ _ h => by cases d <;> exact h) ⟨t0, y0, hz, hx⟩ ?_
                    iterate 15
                      refine Reg.held_at (v := ?_) rfl rfl rfl ?_ ?_
                      rotate_left
                      · intro W7 hW7
                        obtain ⟨h1, h2, h3, h4⟩ := hW7
                        go_simp
                        first | done | rfl
                      go_frame
                    refine Reg.nil_ ?_
                    go_wp2
                    go_roundw
                    case rel => exact ⟨n + 1, by omega, by go_num, by rw [HD.out], ⟨HBn.out.trans ⟨rfl, rfl, rfl, Nat.le_refl _, fun _ _ => rfl⟩⟩⟩
                    case measure => simp [intOf]; omega
              · have hne : n = cl.length := by omega
                have hdt : decide (y ∈ cl.take n) = true := by rw [hne, List.take_length]; exact decide_eq_true HYM.out
                rw [hdt]
                clear hne hdt
                go_wp2
                go_roundw
                case rel => exact ⟨j + 1, by omega, by go_num, ⟨HBj.out.trans (HBn.out.mono HBj.out.size)⟩⟩
                case measure => simp [intOf]; omega
          · go_wp2
            go_ret
            exact ⟨rfl, HBw.out.trans (HBj.out.mono (by omega))⟩

end Go.Proofs.Ytjjlcnjhmkackaa.T
namespace Go.Proofs.Ytjjlcnjhmkackaa
theorem analyse_teaches : Rows.AnalyseTeachesUptoSaid := R.upto T.law_calls
#print axioms analyse_teaches
end Go.Proofs.Ytjjlcnjhmkackaa
