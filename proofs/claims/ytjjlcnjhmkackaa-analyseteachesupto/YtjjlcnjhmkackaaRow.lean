/-
  What a reading of an argument says: the argument's cells are of a kind, its numbers fit, and its size is at most the reading's bulk. Over any program. No condition.
  AnalyseTeaches' second statement out of its contract: what the contract says is a hypothesis here. No further condition.
-/
import Derived.Test.YtjjlcnjhmkackaaRows
import Derived.Test.YtjjlcnjhmkackaaWWords
import Derived.DataReads
import Derived.ChangeArms
import Derived.Test.YtjjlcnjhmkackaaPAx0
import Derived.Test.YtjjlcnjhmkackaaMapII
import Derived.WalkKit
import Derived.ProofKit
import Derived.OpenShut
import Derived.JoinedCond
import Derived.ChangeOld
import Derived.Below
set_option linter.unusedVariables false
set_option linter.unusedSimpArgs false
namespace Go.Open
open Go.Proofs Go.Proofs.Ytjjlcnjhmkackaa Go.Proofs.YtjjlcnjhmkackaaW.PrintWords

/-- what a reading says of a type that is of a kind -/
structure Opens (P : Program) (t : TypeId) {α : Type} (d : Kd α) (good : α → Prop) (bul : α → Nat) : Prop where
  go : ∀ {H : Type} (enc : TypeId × Value → H) (w : World) (base : Nat) (spare : Nat → Bool) (held : Bool) (fuel : Nat) (cs : List Value) (dw : DataW H) (ps : List MemPlace),
    DataW.trod enc P w base spare held fuel t cs = some (dw, ps) → ∃ x, d.K w x cs ∧ good x ∧ bul x ≤ Rows.uptoBulk dw
/-- the same of a struct's fields from a place on -/
structure OpensF (P : Program) (fs : List Field) (o : Nat) {α : Type} (d : Kd α) (good : α → Prop) (bul : α → Nat) : Prop where
  go : ∀ {H : Type} (enc : TypeId × Value → H) (w : World) (base : Nat) (spare : Nat → Bool) (held : Bool) (fuel : Nat) (cs : List Value) (xs : List (DataW H × List MemPlace)),
    cs.length = o + d.sz → xs.length = fs.length → (∀ (i : Nat) (f : Field), fs[i]? = some f → DataW.trod enc P w base spare held fuel f.type ((cs.drop f.offset).take (P.cellsOf f.type)) = xs[i]?) → ∃ x, d.K w x (cs.drop o) ∧ good x ∧ bul x ≤ Rows.uptoBulkAll (xs.map (·.1))

theorem choose_list {α : Type} {Q : Nat → α → Prop} : ∀ n : Nat, (∀ i, i < n → ∃ x, Q i x) → ∃ xs : List α, xs.length = n ∧ ∀ i x, xs[i]? = some x → Q i x
  | 0, _ => ⟨[], rfl, fun i x h => by simp at h⟩
  | n + 1, h => by
    obtain ⟨xs, h1, h2⟩ := choose_list n (fun i hi => h i (by omega))
    obtain ⟨x, hx⟩ := h n (by omega)
    refine ⟨xs ++ [x], by simp [h1], fun i y hy => ?_⟩
    rcases Nat.lt_or_ge i xs.length with hi | hi
    · rw [List.getElem?_append_left hi] at hy
      exact h2 i y hy
    · have : i = xs.length := by
        have := (List.getElem?_eq_some_iff.1 hy).1
        simp at this; omega
      subst this
      simp at hy
      subst hy
      rw [h1]; exact hx
theorem sum_le {α H : Type} {bul : α → Nat} : ∀ {xs : List α} {l : List (DataW H)}, xs.length = l.length → (∀ (i : Nat) x d, xs[i]? = some x → l[i]? = some d → bul x ≤ Rows.uptoBulk d) → (xs.map bul).sum ≤ Rows.uptoBulkAll l
  | [], l, h, _ => by simp
  | x :: xs, [], h, _ => by simp at h
  | x :: xs, d :: l, h, hb => by
    have h1 := hb 0 x d rfl rfl
    have h2 := sum_le (xs := xs) (l := l) (by simpa using h) (fun i y e hi he => hb (i + 1) y e (by simpa using hi) (by simpa using he))
    simp only [List.map_cons, List.sum_cons, Rows.uptoBulkAll]
    omega

theorem sum_mem {α : Type} {bul : α → Nat} {x : α} : ∀ {l : List α}, x ∈ l → bul x ≤ (l.map bul).sum
  | [], h => by simp at h
  | y :: l, h => by
    simp only [List.map_cons, List.sum_cons]
    rcases List.mem_cons.1 h with rfl | h
    · omega
    · have := sum_mem (bul := bul) h; omega
theorem len_sum {α : Type} {bul : α → Nat} (hb : ∀ x, 1 ≤ bul x) : ∀ {l : List α}, l.length ≤ (l.map bul).sum
  | [] => by simp
  | y :: l => by
    have := len_sum hb (l := l)
    have := hb y
    simp only [List.map_cons, List.sum_cons, List.length_cons]
    omega
section
variable {P : Program} {t e : TypeId}
theorem op_int {k : IntKind} (ht : P.underlying t = some (.int k)) : Opens P t (Kd.int k) (fun x => (Lit.int k x).wf = true) (fun _ => 1) := by
  refine ⟨?_⟩
  intro H enc w base spare held fuel cs dw ps h
  obtain ⟨n, rfl, hx, hw⟩ := DataW.trod_int ht h
  injection hx with h1 h2
  subst h1
  exact ⟨n, rfl, hw, by simp [Rows.uptoBulk]⟩
theorem op_bool (ht : P.underlying t = some .bool) : Opens P t Kd.bool (fun _ => True) (fun _ => 1) := by
  refine ⟨?_⟩
  intro H enc w base spare held fuel cs dw ps h
  obtain ⟨b, rfl, hx⟩ := DataW.trod_bool ht h
  injection hx with h1 h2
  subst h1
  exact ⟨b, rfl, trivial, by simp [Rows.uptoBulk]⟩
theorem op_string (ht : P.underlying t = some .string) : Opens P t Kd.string (fun s => s.size ≤ 9223372036854775807) (fun s => s.size + 1) := by
  refine ⟨?_⟩
  intro H enc w base spare held fuel cs dw ps h
  obtain ⟨s, rfl, hx, hs⟩ := DataW.trod_string ht h
  injection hx with h1 h2
  subst h1
  exact ⟨s, rfl, hs, by simp [Rows.uptoBulk]⟩
theorem op_slice {α : Type} {d : Kd α} {good : α → Prop} {bul : α → Nat} (ht : P.underlying t = some (.slice e)) (hs : P.cellsOf e = d.sz) (hO : Opens P e d good bul) :
    Opens P t (Kd.slice e d) (fun xs => xs.length ≤ 9223372036854775807 ∧ ∀ x ∈ xs, good x) (fun xs => (xs.map bul).sum + 1) := by
  refine ⟨?_⟩
  intro H enc w base spare held fuel cs dw ps h
  rcases DataW.trod_slice ht h with ⟨rfl, hx⟩ | ⟨a, len, cap, elems, rest, n, rfl, rfl, hx, hb, hl, hc, hlen, hel, _, _⟩
  · injection hx with h1 h2
    subst h1
    exact ⟨[], ⟨none, 0, rfl, Nat.le_refl 0, Kd.C_nil d w⟩, ⟨by simp, by simp⟩, by simp [Rows.uptoBulk]⟩
  · injection hx with h1 h2
    subst h1
    rw [hs] at hel
    obtain ⟨xs, hxl, hxs⟩ := choose_list (α := α) (Q := fun i x => (∃ ci, ci.length = d.sz ∧ (∀ k, k < d.sz → w.cell? ((a.add (i * d.sz)).add k) = ci[k]?) ∧ d.K w x ci) ∧ good x ∧ ∀ y, elems[i]? = some y → bul x ≤ Rows.uptoBulk y.1) len (fun i hi => by
      have he := hel i hi
      obtain ⟨y, hy⟩ : ∃ y, elems[i]? = some y := ⟨_, List.getElem?_eq_getElem (by omega)⟩
      rw [hy] at he
      obtain ⟨ci, h3, h4⟩ := Option.bind_eq_some_iff.1 he
      obtain ⟨_, h5, h6⟩ := World.cells?_some h3
      obtain ⟨x, k1, k2, k3⟩ := hO.go enc w base spare held n ci y.1 y.2 h4
      exact ⟨x, ⟨ci, h5, h6, k1⟩, k2, fun y' hy' => by rw [hy] at hy'; injection hy' with hy'; subst hy'; exact k3⟩)
    have hmx : len ≤ 9223372036854775807 := Nat.le_trans hl hc
    refine ⟨xs, ⟨some a, cap, by rw [hxl], by omega, ⟨rfl, by omega, fun _ => ⟨a, rfl, fun j p hj => ?_⟩⟩⟩, ⟨by omega, fun x hx => ?_⟩, ?_⟩
    · obtain ⟨⟨ci, h5, h6, h7⟩, _⟩ := hxs j p hj
      refine ⟨ci, h5, h7, fun i u hu => ?_⟩
      have hi : i < d.sz := by have := (List.getElem?_eq_some_iff.1 hu).1; omega
      have h8 := h6 i hi
      rw [hu] at h8
      have : (a.add (j * d.sz)).add i = a.add (j * d.sz + i) := add_add _ _ _
      rw [← this]; exact h8
    · obtain ⟨i, hi⟩ := List.mem_iff_getElem?.1 hx
      exact (hxs i x hi).2.1
    · have := sum_le (bul := bul) (xs := xs) (l := elems.map (·.1)) (by simp; omega) (fun i x dd hx hd => by
        rw [List.getElem?_map] at hd
        obtain ⟨y, hy, rfl⟩ := Option.map_eq_some_iff.1 hd
        exact (hxs i x hx).2.2 y hy)
      simp only [Rows.uptoBulk]
      omega
theorem op_iso {α β : Type} {d : Kd α} {good : α → Prop} {bul : α → Nat} {good' : β → Prop} {bul' : β → Nat} (f : β → α) (g : α → β) (hg : ∀ x, f (g x) = x) (hO : Opens P t d good bul) (h1' : ∀ y, good (f y) → good' y) (h2' : ∀ y, bul' y ≤ bul (f y)) : Opens P t (Kd.iso d f) good' bul' := by
  refine ⟨?_⟩
  intro H enc w base spare held fuel cs dw ps h
  obtain ⟨x, h1, h2, h3⟩ := hO.go enc w base spare held fuel cs dw ps h
  exact ⟨g x, by show d.K w (f (g x)) cs; rw [hg]; exact h1, h1' _ (by rw [hg]; exact h2), Nat.le_trans (h2' _) (by rw [hg]; exact h3)⟩
theorem ops_one {α : Type} {d : Kd α} {good : α → Prop} {bul : α → Nat} {f : Field} {o : Nat} (ho0 : f.offset = o) (hO : Opens P f.type d good bul) (hs : P.cellsOf f.type = d.sz) : OpensF P [f] o d good bul := by
  subst ho0
  refine ⟨?_⟩
  intro H enc w base spare held fuel cs xs hl hx h
  obtain ⟨y, rfl⟩ : ∃ y, xs = [y] := List.length_eq_one_iff.1 (by simpa using hx)
  have h0 := h 0 f rfl
  have ht : (cs.drop f.offset).take (P.cellsOf f.type) = cs.drop f.offset := List.take_of_length_le (by simp; omega)
  rw [ht] at h0
  obtain ⟨x, h1, h2, h3⟩ := hO.go enc w base spare held fuel _ y.1 y.2 h0
  exact ⟨x, h1, h2, by simp [Rows.uptoBulkAll]; exact h3⟩
theorem ops_cons {α β : Type} {d : Kd α} {d' : Kd β} {good : α → Prop} {bul : α → Nat} {good' : β → Prop} {bul' : β → Nat} {f : Field} {fs : List Field} {o o' : Nat} (ho0 : f.offset = o) (hO : Opens P f.type d good bul) (hs : P.cellsOf f.type = d.sz) (ho : o' = f.offset + d.sz) (hr : OpensF P fs o' d' good' bul') :
    OpensF P (f :: fs) o (Kd.pair d d') (fun x => good x.1 ∧ good' x.2) (fun x => bul x.1 + bul' x.2) := by
  subst ho ho0
  refine ⟨?_⟩
  intro H enc w base spare held fuel cs xs hl hx h
  obtain ⟨y, ys, rfl⟩ : ∃ y ys, xs = y :: ys := List.exists_cons_of_length_pos (by rw [hx]; simp)
  have h0 := h 0 f rfl
  have hl' : cs.length = f.offset + (d.sz + d'.sz) := hl
  rw [hs] at h0
  obtain ⟨x, h1, h2, h3⟩ := hO.go enc w base spare held fuel _ y.1 y.2 h0
  obtain ⟨x', k1, k2, k3⟩ := hr.go enc w base spare held fuel cs ys (by omega) (by simpa using hx) (fun i g hg => by simpa using h (i + 1) g (by simpa using hg))
  refine ⟨(x, x'), ⟨_, _, ?_, h1, k1⟩, ⟨h2, k2⟩, by simp only [List.map_cons, Rows.uptoBulkAll]; omega⟩
  rw [← List.drop_drop]
  exact (List.take_append_drop _ _).symm
theorem op_weaken {α : Type} {d : Kd α} {good good' : α → Prop} {bul bul' : α → Nat} (hO : Opens P t d good bul) (h1' : ∀ y, good y → good' y) (h2' : ∀ y, bul' y ≤ bul y) : Opens P t d good' bul' := by
  refine ⟨?_⟩
  intro H enc w base spare held fuel cs dw ps h
  obtain ⟨x, h1, h2, h3⟩ := hO.go enc w base spare held fuel cs dw ps h
  exact ⟨x, h1, h1' _ h2, Nat.le_trans (h2' _) h3⟩
theorem op_struct {α : Type} {d : Kd α} {good : α → Prop} {bul : α → Nat} {fs : Array Field} (ht : P.underlying t = some (.struct fs)) (hs : P.cellsOf t = d.sz) (hO : OpensF P fs.toList 0 d good bul) : Opens P t d good (fun x => bul x + 1) := by
  refine ⟨?_⟩
  intro H enc w base spare held fuel cs dw ps h
  obtain ⟨xs, n, rfl, hx, hl, hxl, hf⟩ := DataW.trod_struct ht h
  injection hx with h1 h2
  subst h1
  obtain ⟨x, k1, k2, k3⟩ := hO.go enc w base spare held n cs xs (by omega) (by simpa using hxl) (fun i f hi => hf i f (by simpa using hi))
  exact ⟨x, by simpa using k1, k2, by simp only [Rows.uptoBulk]; omega⟩
end
end Go.Open
set_option linter.unusedVariables false
namespace Go.Proofs.Ytjjlcnjhmkackaa.R
open Go.ChangeShapes Go.WideShapes Go.ChangeAt Go.RowKit Go.MapII Go.Open
open Go.Proofs.YtjjlcnjhmkackaaW.PrintWords Go.Proofs.Ytjjlcnjhmkackaa.PA

/-- the law's contract -/
def LawCalls : Prop := ∀ {w : World} {Ac Am : Option Addr} {cc cm : Nat} {C : List (List Int)} {M : List S54}, Kd.C (Kd.slice 3 (Kd.int .i64)) w Ac C.length C → C.length ≤ cc → Kd.C k54 w Am M.length M → M.length ≤ cm →
  (∀ c ∈ C, ∀ x ∈ c, Fits x) → (∀ m ∈ M, Fits m.f0) → C.length ≤ 1048576 → M.length ≤ 1048576 → (∀ c ∈ C, c.length ≤ 1048576) → ∀ conflict : Int, Fits conflict →
  Calls Try.prog 3 #[.agg #[.slice Ac C.length cc, .slice Am M.length cm], .int .i64 conflict] w fun e w' => e = .returned (.bool true) ∧ Below w.heap.size w w'

def bCl (c : List Int) : Nat := (c.map fun _ => 1).sum + 1
def gCl (c : List Int) : Prop := c.length ≤ 9223372036854775807 ∧ ∀ x ∈ c, (Lit.int .i64 x).wf = true
def bM (_ : S54) : Nat := 1 + (1 + 1) + 1
def gM (m : S54) : Prop := (Lit.int .i64 m.f0).wf = true ∧ (Lit.int .i64 m.f1).wf = true ∧ (Lit.int .i64 m.f2).wf = true
theorem opI : Opens Try.prog 3 (Kd.int .i64) (fun x => (Lit.int .i64 x).wf = true) (fun _ => 1) := op_int Try.underlying3
theorem opCl : Opens Try.prog 27 (Kd.slice 3 (Kd.int .i64)) gCl bCl := op_slice Try.underlying27 (by kernel_rfl) opI
theorem opCls : Opens Try.prog 22 (Kd.slice 27 (Kd.slice 3 (Kd.int .i64))) (fun C => C.length ≤ 9223372036854775807 ∧ ∀ c ∈ C, gCl c) (fun C => (C.map bCl).sum + 1) := op_slice Try.underlying22 (by kernel_rfl) opCl
theorem opM : Opens Try.prog 54 k54 gM bM :=
  op_iso (fun x : S54 => (x.f0, x.f1, x.f2)) (fun p => ⟨p.1, p.2.1, p.2.2⟩) (fun _ => rfl)
    (op_struct Try.underlying54 (by kernel_rfl) (ops_cons (o' := 1) rfl opI (by kernel_rfl) rfl (ops_cons (o' := 2) rfl opI (by kernel_rfl) rfl (ops_one rfl opI (by kernel_rfl))))) (fun _ h => h) (fun _ => Nat.le_refl _)
theorem opMs : Opens Try.prog 23 (Kd.slice 54 k54) (fun M => M.length ≤ 9223372036854775807 ∧ ∀ m ∈ M, gM m) (fun M => (M.map bM).sum + 1) := op_slice Try.underlying23 (by kernel_rfl) opM
def kCase := Kd.pair (Kd.slice 27 (Kd.slice 3 (Kd.int .i64))) (Kd.slice 54 k54)
def gCase (x : List (List Int) × List S54) : Prop := (x.1.length ≤ 9223372036854775807 ∧ ∀ c ∈ x.1, gCl c) ∧ (x.2.length ≤ 9223372036854775807 ∧ ∀ m ∈ x.2, gM m)
def bCase (x : List (List Int) × List S54) : Nat := ((x.1.map bCl).sum + 1 + ((x.2.map bM).sum + 1)) + 1
theorem opCase : Opens Try.prog 25 kCase gCase bCase :=
  op_weaken (op_struct (d := kCase) Try.underlying25 (by kernel_rfl) (ops_cons (o' := 1) rfl opCls (by kernel_rfl) rfl (ops_one rfl opMs (by kernel_rfl)))) (fun _ h => h) (fun _ => Nat.le_refl _)

theorem own : ownKnob Try.prog.godebug = none := by kernel_rfl
theorem laidOut : laidOutB Try.prog = true := by kernel_rfl

theorem contract (hL : LawCalls) (H : Type) (enc : TypeId × Value → H) (W : World) (base : Nat) (args : Array Value) (ds gs : List (DataW H)) (before : List MemPlace)
    (hval : ∀ (j : Nat) t v, Try.f3.params[j]? = some t → args[j]? = some v → Value.okWide Try.prog W .any base t v)
    (hW : DataW.Whole enc Try.prog Try.f3.params.toList Rows.analyseTeachesSpec.vars false W args.toList ds gs before) (hk : Rows.uptoSmall H (ds ++ gs) = true) :
    Calls Try.prog 3 args W fun e W' => ∃ v, e = .returned v ∧ Rows.analyseTeachesSpec.post enc Try.prog Try.f3 false true false false W args v W' := by
  have hW' := hW
  obtain ⟨p, q, hA0, hV, rfl, hfz, hnd⟩ := hW
  have hA : DataW.TrodAll enc Try.prog W 0 (fun _ => true) true Try.f3.params.toList args.toList ds p := hA0
  rw [Try.params3] at hA hval
  obtain ⟨v0, vs0, d0, ds0, p0, q0, hargs, rfl, rfl, h0, r0⟩ := trodAll_cons hA
  obtain ⟨v1, vs1, d1, ds1, p1, q1, rfl, rfl, rfl, h1, r1⟩ := trodAll_cons r0
  obtain ⟨rfl, rfl, rfl⟩ := trodAll_nil r1
  obtain rfl : args = #[v0, v1] := by cases args; simp_all
  obtain ⟨rfl, rfl⟩ := trodVars_none hV
  have k0 := h0
  have lt0 : ∀ x ∈ p0, x.block < W.heap.size := by obtain ⟨m, hm⟩ := k0; exact DataW.trod_lt m _ _ _ hm
  obtain ⟨cs, rfl, hcsz, _⟩ : ∃ cs, v0 = .agg cs ∧ cs.size = Try.prog.cellsOf 25 ∧ Row.okWide Try.prog W .any base 25 cs := by
    have h := hval 0 25 v0 rfl rfl
    unfold Value.okWide at h
    rw [Try.underlying25] at h
    exact h
  obtain ⟨fuel, hf⟩ := h0
  obtain ⟨⟨C, M⟩, ⟨c0, c1, hcs, ⟨Ac, cc, rfl, hcc, hC⟩, ⟨Am, cm, rfl, hcm, hM⟩⟩, ⟨⟨hC1, hC2⟩, hM1, hM2⟩, hb⟩ := opCase.go enc W 0 _ true fuel _ _ _ hf
  obtain ⟨cl, hcl⟩ : ∃ l, l = cs.toList := ⟨_, rfl⟩
  obtain rfl : cs = #[.slice Ac C.length cc, .slice Am M.length cm] := by
    have h : cs.toList = [.slice Ac C.length cc, .slice Am M.length cm] := hcs
    cases cs
    simp only at h
    rw [h]
  clear hcs hcl hf hcsz
  obtain ⟨a1, rfl, rfl, rfl, w1⟩ := open_int Try.underlying3 (hval 1 3 v1 rfl rfl) h1
  have hbd : Rows.uptoBulkAll ([d0, .lit (.int .i64 a1)] ++ [] : List (DataW H)) ≤ 1048576 := of_decide_eq_true hk
  simp only [List.append_nil, Rows.uptoBulkAll] at hbd
  have hb' : ((C.map bCl).sum + 1 + ((M.map bM).sum + 1)) + 1 ≤ Rows.uptoBulk d0 := hb
  have e1 : (C.map bCl).sum ≤ Rows.uptoBulk d0 := by omega
  have e2 : M.length ≤ Rows.uptoBulk d0 := by
    have := len_sum (bul := bM) (fun x => Nat.succ_pos _) (l := M)
    exact Nat.le_trans this (by omega)
  have e3 : C.length ≤ Rows.uptoBulk d0 := Nat.le_trans (len_sum (fun x => Nat.succ_pos _)) e1
  have e4 : ∀ c ∈ C, c.length ≤ Rows.uptoBulk d0 := fun c hc => by
    have h1 := sum_mem (bul := bCl) hc
    have h2 := len_sum (bul := fun _ : Int => 1) (fun _ => Nat.le_refl 1) (l := c)
    have h3 : bCl c = (c.map fun _ => 1).sum + 1 := rfl
    omega
  have hb1 : C.length ≤ 1048576 := by omega
  have hb2 : M.length ≤ 1048576 := by omega
  clear hA0
  simp only [List.append_nil] at hW'
  refine (hL hC hcc hM hcm (fun c hc x hx => (hC2 c hc).2 x hx) (fun m hm => (hM2 m hm).1) hb1 hb2 (fun c hc => by have := e4 c hc; omega) a1 w1).mono fun e W' ⟨he, bel⟩ => ?_
  subst he
  exact ⟨_, rfl, _, _, _, [], _, [], hW', trodAll_mk1 (shut_bool Try.underlying4 _), (trodAll_cons_mk (Below.trod laidOut (by kernel_rfl) (of_decide_eq_true (by kernel_rfl)) k0 bel lt0) (trodAll_cons_mk (shut_int Try.underlying3 w1) trodAll_mk0)), rfl, bel.frame _, fun h => by cases h⟩

set_option maxRecDepth 100000 in
theorem lifted (hL : LawCalls) (os : Os) (started : os.Started) (H : Type) (enc : TypeId × Value → H) (F : Stop.Interp) :
    ReturnsInHanded {} Try.checked os 3 .any ((Rows.OpenSpec.upto Rows.analyseTeachesSpec).pre6 enc Try.prog Try.f3 Rows.analyseTeachesUptoRow.domain false) (((Rows.OpenSpec.upto Rows.analyseTeachesSpec).at F).post enc Try.prog Try.f3 false true false false) := by
  refine returnsInHanded_of_cond (C := Try.checked) (s := Rows.OpenSpec.upto Rows.analyseTeachesSpec) (k := Rows.uptoSmall) rfl own started (by kernel_rfl) Try.func3
    (OpenSpec.witness (enc := enc) (C := Try.checked) (s := Rows.OpenSpec.upto Rows.analyseTeachesSpec) (k := Rows.uptoSmall) rfl false ⟨#[], #[.agg #[.slice none 0 0, .slice none 0 0], .int .i64 0], []⟩ 8 (by kernel_rfl) (by kernel_rfl) (by kernel_rfl)
      (x := ([.agg [.nil, .nil], .lit (.int .i64 0)], [], [])) (by kernel_rfl) rfl (by kernel_rfl)) ?_
  intro W base args ds gs before hval hW _ hk _
  exact contract hL H enc W base args ds gs before hval hW hk

theorem over (hL : LawCalls) : Rows.analyseTeachesUptoRow.holds Try.pinned (Rows.OpenSpec.upto Rows.analyseTeachesSpec) :=
  OpenClaim.holds_of_cond 3 Try.f3 rfl rfl rfl rfl rfl rfl rfl ⟨rfl, rfl, rfl, rfl, rfl⟩ rfl rfl rfl rfl rfl (by kernel_rfl) Try.func3 (by kernel_rfl)
    (of_decide_eq_true (by kernel_rfl)) (by unfold Func.isWrapper; first | (rw [if_pos (by decide +kernel)]; kernel_rfl) | (rw [if_neg (by decide +kernel)]; exact ⟨rfl, rfl⟩))
    (fun os started H enc _ F => lifted hL os started H enc F)
theorem upto (hL : LawCalls) : Rows.AnalyseTeachesUptoSaid := over hL
end Go.Proofs.Ytjjlcnjhmkackaa.R
