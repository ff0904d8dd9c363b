/-
  Regions that draw their order, walked in one order that is written out: each operation either yields its value in every world that meets S, or is the only one that may come up. Over any program. No condition.
-/
import Derived.StillTailTactics
import Derived.Deep.QuietTactic
import Derived.BigQuiet
import Derived.WalkKit
import Derived.Test.YtjjlcnjhmkackaaWLast
import Derived.Test.YtjjlcnjhmkackaaWWords
set_option linter.unusedVariables false
namespace Go.Reg
open Go.RowKit Go.Proofs Go.Proofs.YtjjlcnjhmkackaaW.PrintWords Go.Proofs.YtjjlcnjhmkackaaW.PrintLast
variable {P : Program}
theorem still_tail {id : Nat} {Q : Exit → Act → World → Prop} {a : Act} {w : World} {l : List Oper} (n : Nat) (hm : P.follows .mixedOrders = true) (hB : Region.lexTailB .any l.toArray n = true)
    (h : ∀ nd, wpStill P l.toArray (w.drewN nd) (fun a' => wpList P l.toArray Q (l.drop n) a' (w.drewN nd)) (l.take n) a) : (Code.region id l.toArray true).wp P Q a w :=
  wp_region_still_tail n hm hB (h 1)
theorem still_all {id : Nat} {Q : Exit → Act → World → Prop} {a : Act} {w : World} {l : List Oper} (hm : P.follows .mixedOrders = true) (hB : Region.lexB .any l.toArray = true)
    (h : ∀ nd, wpStill P l.toArray (w.drewN nd) (fun a' => Q .normal a' (w.drewN nd)) l a) : (Code.region id l.toArray true).wp P Q a w :=
  wp_region_still_lit hm hB (h 1)

/-- The order, checked: (i, false): i may be taken first; (i, true): i alone may come up. -/
def schB (md : Region.Mode) (ops : Array Oper) (ds : List Nat) : List (Nat × Bool) → Array Bool → Bool
  | [], l => Region.ready md ops l == []
  | (i, false) :: r, l => Region.free md ops l i && (Region.ready md ops l).contains i && Region.closedB md ops l && Region.lastB md ops l ds i && schB md ops ds r (l.setIfInBounds i true)
  | (i, true) :: r, l => (Region.ready md ops l == [i]) && (!ds.contains i || r.all (·.2)) && schB md ops ds r (l.setIfInBounds i true)

def wpSch (P : Program) (ops : Array Oper) (Q : Exit → Act → World → Prop) (S : World → Prop) (ds : List Nat) : List (Nat × Bool) → Act → World → Prop
  | [], a, w => Q .normal a w
  | (i, false) :: r, a, w => ∃ o v, ops[i]? = some o ∧ YieldsIf P ops S o v a ∧ wpSch P ops Q S ds r (a.put o.dst v) w
  | (i, true) :: r, a, w => ∃ o, ops[i]? = some o ∧ ∀ K : Act → World → Prop, (∀ a' w', (i ∉ ds → S w') → wpSch P ops Q S ds r a' w' → K a' w') → if Region.wanted o (yielded ops a.tmps) then Oper.wp P o a w K Q else K (a.put o.dst undef) w

theorem wpOp_of {ops : Array Oper} {Q : Exit → Act → World → Prop} {i : Nat} {o : Oper} (ho : ops[i]? = some o) {a : Act} {w : World} {K : Act → World → Prop}
    (h : if Region.wanted o (yielded ops a.tmps) then Oper.wp P o a w K Q else K (a.put o.dst undef) w) : wpOp P ops Q i K a w := by
  unfold wpOp
  simp only [ho]
  split
  · rename_i hw; simp only [hw, if_true] at h; exact .inl h
  · rename_i hw; simp only [hw] at h; exact h

theorem sch_sound {md : Region.Mode} {ops : Array Oper} {Q : Exit → Act → World → Prop} {S : World → Prop} {ds : List Nat} (hs : Region.noSelect ops = true) (hQ : ∀ c a d v w, Q (.panic c) (Act.put a d v) w → Q (.panic c) a w) :
    ∀ (sch : List (Nat × Bool)) (l : Array Bool) (a : Act) (w : World), schB md ops ds sch l = true → (S w ∨ sch.all (·.2) = true) → wpSch P ops Q S ds sch a w → wpAnyLast P md ops Q S ds sch.length l a w
  | [], l, a, w, hB, hS, h => wpAnyLast_done (by simpa [schB] using hB) h 0
  | (i, false) :: r, l, a, w, hB, hS, h => by
    simp only [schB, Bool.and_eq_true] at hB
    obtain ⟨⟨⟨⟨h1, h2⟩, h3⟩, h4⟩, h5⟩ := hB
    have hS' : S w := by rcases hS with h | h; exact h; simp at h
    obtain ⟨o, v, ho, hy, hr⟩ := h
    exact wpAnyLast_take ho hs h1 h2 h3 h4 (fun c a w => hQ c a _ _ w) hy hS' (sch_sound hs hQ r _ _ _ h5 (.inl hS') hr)
  | (i, true) :: r, l, a, w, hB, hS, h => by
    simp only [schB, Bool.and_eq_true, beq_iff_eq] at hB
    obtain ⟨⟨h1, h2⟩, h5⟩ := hB
    obtain ⟨o, ho, hK⟩ := h
    refine wpAnyLast_all h1 (by simp) fun j hj => ?_
    obtain rfl : j = i := by simpa using hj
    refine wpOp_of ho (hK _ fun a' w' hS' hr => ⟨fun hn _ => hS' hn, sch_sound hs hQ r _ _ _ h5 ?_ hr⟩)
    by_cases hd : j ∈ ds
    · right
      simpa [hd] using h2
    · exact .inl (hS' hd)

/-- A region by an order that is written out. -/
theorem by_order {id : Nat} {Q : Exit → Act → World → Prop} {a : Act} {w : World} {l : List Oper} (sch : List (Nat × Bool)) (ds : List Nat) (S : World → Prop) (hm : P.follows .mixedOrders = true)
    (hB : (Region.noSelect l.toArray && (sch.length == l.toArray.size) && schB .any l.toArray ds sch (Array.replicate l.toArray.size false)) = true)
    (hQ : ∀ c a d v w, Q (.panic c) (Act.put a d v) w → Q (.panic c) a w) (hS : S w.drew) (h : wpSch P l.toArray Q S ds sch a w.drew) : (Code.region id l.toArray true).wp P Q a w := by
  simp only [Bool.and_eq_true, beq_iff_eq] at hB
  obtain ⟨⟨h1, h2⟩, h3⟩ := hB
  refine wp_region_last_drew (S := S) (ds := ds) hm hS fun hS' => ?_
  rw [← h2] at h3 ⊢
  exact sch_sound h1 hQ sch _ a _ h3 (.inl hS') h

theorem append_num_K {o : Oper} {a : Act} {Q : Exit → Act → World → Prop} {K : Act → World → Prop} {w0 W : World} (base : Nat) (s x : Operand) (t e : TypeId) (k : IntKind) (bytes : Nat)
    (ho : o.op = .call { callee := .builtin .append, args := #[s, x], argTypes := #[t, t] })
    (ht : P.underlying t = some (.slice e)) (hinfo : (P.info? e).map (fun i => (i.zero, i.size, i.bytes)) = some (some (.int k 0), 1, bytes)) (hb0 : 0 < bytes)
    (v : Value) (xs : List Int) (y : Int) (hs : a.eval s = v) (hx : a.eval x = .slice (some ⟨W.heap.size, 0, none⟩) 1 1)
    (HO : W.ownsRow base e 1 v xs.length (nums k xs)) (HB : Below base w0 W) (hbase : base ≤ W.heap.size) (hl : (xs.length + 1) * bytes ≤ 140737488355328)
    (h : ∀ v1 w1, w1.ownsRow base e 1 v1 (xs ++ [y]).length (nums k (xs ++ [y])) → Below base w0 w1 → W.grownBy w1 v.ownBlock → (v1.ownBlock = v.ownBlock ∨ ∃ b, v1.ownBlock = some b ∧ W.heap.size ≤ b) → K (a.put o.dst v1) w1) :
    Oper.wp P o a (W.alloc (.cells #[.int k y] e)) K Q := by
  have hh := step_append_cells (P := P) (ops := #[]) (Q := Q) (K := K) (o := { o with guard := none }) (a := a) base rfl s x t e (.int k 0) 1 bytes ho ht hinfo rfl (by decide) hb0 v xs.length (nums k xs) [.int k y] hs hx rfl (by simp [Value.oneCell']) HO HB hbase hl
    fun v1 w1 hown hB hg hat => h v1 w1 (by simpa [nums] using hown) hB hg hat
  exact hh

section
variable {ops : Array Oper} {Q : Exit → Act → World → Prop} {S : World → Prop} {ds : List Nat} {r : List (Nat × Bool)} {i : Nat} {o : Oper} {a : Act} {w : World}
theorem nil_ (h : Q .normal a w) : wpSch P ops Q S ds [] a w := h
/-- an operation that yields its value in every world that meets S -/
theorem held {v : Value} (ho : ops[i]? = some o) (hw : Region.wanted o (yielded ops a.tmps) = true) (hr : ∀ W, S W → (execOp a.eval o).run P W = .ok (.value v) W) (h : wpSch P ops Q S ds r (a.put o.dst v) w) : wpSch P ops Q S ds ((i, false) :: r) a w :=
  ⟨o, v, ho, .inl ⟨hw, hr⟩, h⟩
theorem held_at {v : Value} {n : Nat} (ho : ops[i]? = some o) (hw : Region.wanted o (yielded ops a.tmps) = true) (hN : o.dst = some n) (hr : ∀ W, S W → (execOp a.eval o).run P W = .ok (.value v) W) (h : wpSch P ops Q S ds r { a with tmps := a.tmps.setIfInBounds n v } w) : wpSch P ops Q S ds ((i, false) :: r) a w :=
  ⟨o, v, ho, .inl ⟨hw, hr⟩, by rw [hN]; exact h⟩
theorem off (ho : ops[i]? = some o) (hw : Region.wanted o (yielded ops a.tmps) = false) (h : wpSch P ops Q S ds r (a.put o.dst undef) w) : wpSch P ops Q S ds ((i, false) :: r) a w :=
  ⟨o, undef, ho, .inr ⟨hw, rfl⟩, h⟩
/-- an operation that does more, run where it alone may come up -/
theorem eff (ho : ops[i]? = some o) (h : ∀ K : Act → World → Prop, (∀ a' w', (i ∉ ds → S w') → wpSch P ops Q S ds r a' w' → K a' w') → if Region.wanted o (yielded ops a.tmps) then Oper.wp P o a w K Q else K (a.put o.dst undef) w) : wpSch P ops Q S ds ((i, true) :: r) a w :=
  ⟨o, ho, h⟩
theorem eff_on {l : List Oper} (ho : l[i]? = some o) (hw : Region.wanted o (yielded l.toArray a.tmps) = true) (h : ∀ K : Act → World → Prop, (∀ a' w', (i ∉ ds → S w') → wpSch P l.toArray Q S ds r a' w' → K a' w') → Oper.wp P o a w K Q) : wpSch P l.toArray Q S ds ((i, true) :: r) a w :=
  ⟨o, by simpa using ho, fun K hK => by rw [if_pos hw]; exact h K hK⟩
theorem off_at {n : Nat} (ho : ops[i]? = some o) (hw : Region.wanted o (yielded ops a.tmps) = false) (hN : o.dst = some n) (h : wpSch P ops Q S ds r { a with tmps := a.tmps.setIfInBounds n undef } w) : wpSch P ops Q S ds ((i, false) :: r) a w :=
  ⟨o, undef, ho, .inr ⟨hw, rfl⟩, by rw [hN]; exact h⟩
theorem skip_on {l : List Oper} {n : Nat} (ho : l[i]? = some o) (hw : Region.wanted o (yielded l.toArray a.tmps) = false) (hN : o.dst = some n) (hS : S w) (h : wpSch P l.toArray Q S ds r { a with tmps := a.tmps.setIfInBounds n undef } w) : wpSch P l.toArray Q S ds ((i, true) :: r) a w :=
  ⟨o, by simpa using ho, fun K hK => by
    have hw' : ¬ Region.wanted o (yielded l.toArray a.tmps) = true := by rw [hw]; decide
    rw [if_neg hw', hN]
    exact hK _ _ (fun _ => hS) h⟩
end
end Go.Reg
