/-
  Regions that draw their order, some of whose operations may come up in any order: what holds is told by which of them are done. Over any program. No condition.
-/
import Derived.Test.YtjjlcnjhmkackaaReg
set_option linter.unusedVariables false
namespace Go.Reg
open Go.RowKit Go.Proofs Go.Proofs.YtjjlcnjhmkackaaW.PrintWords Go.Proofs.YtjjlcnjhmkackaaW.PrintLast
variable {P : Program}

/-- an order written out, up to a point -/
def runB (md : Region.Mode) (ops : Array Oper) (ds : List Nat) : List Nat → Array Bool → Option (Array Bool)
  | [], l => some l
  | i :: r, l => if Region.free md ops l i && (Region.ready md ops l).contains i && Region.closedB md ops l && Region.lastB md ops l ds i then runB md ops ds r (l.setIfInBounds i true) else none
/-- each order in which these may come up, up to a point -/
def invB (md : Region.Mode) (ops : Array Oper) (ds : List Nat) (E : List (Nat × List Nat)) (lE : Array Bool) : Nat → Array Bool → Bool
  | 0, l => l == lE
  | n + 1, l => !(Region.ready md ops l).isEmpty && (Region.ready md ops l).all fun i => !ds.contains i && !(l.getD i true) && (E.any fun e => e.1 == i && e.2.all fun d => l.getD d false) && invB md ops ds E lE n (l.setIfInBounds i true)

def wpTo (P : Program) (ops : Array Oper) (S : World → Prop) (R : Act → World → Prop) : List Nat → Act → World → Prop
  | [], a, w => R a w
  | i :: r, a, w => ∃ o v, ops[i]? = some o ∧ YieldsIf P ops S o v a ∧ wpTo P ops S R r (a.put o.dst v) w

theorem to_sound {md : Region.Mode} {ops : Array Oper} {Q : Exit → Act → World → Prop} {S : World → Prop} {R : Act → World → Prop} {ds : List Nat} {m : Nat} {l' : Array Bool} (hs : Region.noSelect ops = true) (hQ : ∀ c a d v w, Q (.panic c) (Act.put a d v) w → Q (.panic c) a w)
    (hR : ∀ a w, S w → R a w → wpAnyLast P md ops Q S ds m l' a w) :
    ∀ (pre : List Nat) (l : Array Bool) (a : Act) (w : World), runB md ops ds pre l = some l' → S w → wpTo P ops S R pre a w → wpAnyLast P md ops Q S ds (pre.length + m) l a w
  | [], l, a, w, hB, hS, h => by
    simp only [runB, Option.some.injEq] at hB
    subst hB
    simpa using hR a w hS h
  | i :: r, l, a, w, hB, hS, h => by
    unfold runB at hB
    split at hB
    · rename_i hc
      simp only [Bool.and_eq_true] at hc
      obtain ⟨⟨⟨h1, h2⟩, h3⟩, h4⟩ := hc
      obtain ⟨o, v, ho, hy, hr⟩ := h
      have := wpAnyLast_take ho hs h1 h2 h3 h4 (fun c a w => hQ c a _ _ w) hy hS (to_sound hs hQ hR r _ _ _ hB hS hr)
      simpa [Nat.add_right_comm] using this
    · cases hB

theorem inv_sound {md : Region.Mode} {ops : Array Oper} {Q : Exit → Act → World → Prop} {S : World → Prop} {ds : List Nat} {E : List (Nat × List Nat)} {lE : Array Bool} {m : Nat} {I : Array Bool → Act → World → Prop}
    (hR : ∀ a w, S w → I lE a w → wpAnyLast P md ops Q S ds m lE a w)
    (step : ∀ i D, (i, D) ∈ E → ∀ (l : Array Bool) (a : Act) (w : World), l.getD i true = false → (∀ d ∈ D, l.getD d false = true) → S w → I l a w →
      ∃ o, ops[i]? = some o ∧ ∀ K : Act → World → Prop, (∀ a' w', S w' → I (l.setIfInBounds i true) a' w' → K a' w') → if Region.wanted o (yielded ops a.tmps) then Oper.wp P o a w K Q else K (a.put o.dst undef) w) :
    ∀ (n : Nat) (l : Array Bool) (a : Act) (w : World), invB md ops ds E lE n l = true → S w → I l a w → wpAnyLast P md ops Q S ds (n + m) l a w
  | 0, l, a, w, hB, hS, h => by
    simp only [invB, beq_iff_eq] at hB
    subst hB
    simpa using hR a w hS h
  | n + 1, l, a, w, hB, hS, h => by
    simp only [invB, Bool.and_eq_true, Bool.not_eq_true', List.isEmpty_eq_false_iff, List.all_eq_true] at hB
    obtain ⟨hne, hall⟩ := hB
    have key : wpAnyLast P md ops Q S ds ((n + m) + 1) l a w := by
      refine wpAnyLast_all rfl hne fun i hi => ?_
      obtain ⟨⟨⟨h1, h2⟩, h3⟩, h4⟩ := hall i hi
      obtain ⟨e, he, h5⟩ := List.any_eq_true.1 h3
      simp only [Bool.and_eq_true, beq_iff_eq, List.all_eq_true] at h5
      obtain ⟨rfl, h6⟩ := h5
      obtain ⟨o, ho, hK⟩ := step e.1 e.2 he l a w h2 h6 hS h
      exact wpOp_of ho (hK _ fun a' w' hS' hI => ⟨fun _ _ => hS', inv_sound hR step n _ a' w' h4 hS' hI⟩)
    simpa [Nat.add_right_comm] using key

/-- A region some of whose operations may come up in any order. -/
theorem by_inv {id : Nat} {Q : Exit → Act → World → Prop} {a : Act} {w : World} {l : List Oper} (pre : List Nat) (E : List (Nat × List Nat)) (n : Nat) (tail : List (Nat × Bool)) (ds : List Nat) (l1 lE : Array Bool) (S : World → Prop) (I : Array Bool → Act → World → Prop) (hm : P.follows .mixedOrders = true)
    (hB : (Region.noSelect l.toArray && (pre.length + (n + tail.length) == l.toArray.size) && (runB .any l.toArray ds pre (Array.replicate l.toArray.size false) == some l1) && invB .any l.toArray ds E lE n l1 && schB .any l.toArray ds tail lE) = true)
    (hQ : ∀ c a d v w, Q (.panic c) (Act.put a d v) w → Q (.panic c) a w) (hS : S w.drew) (h : wpTo P l.toArray S (I l1) pre a w.drew)
    (step : ∀ i D, (i, D) ∈ E → ∀ (l' : Array Bool) (a : Act) (w : World), l'.getD i true = false → (∀ d ∈ D, l'.getD d false = true) → S w → I l' a w →
      ∃ o, l[i]? = some o ∧ ∀ K : Act → World → Prop, (∀ a' w', S w' → I (l'.setIfInBounds i true) a' w' → K a' w') → if Region.wanted o (yielded l.toArray a.tmps) then Oper.wp P o a w K Q else K (a.put o.dst undef) w)
    (fin : ∀ a w, S w → I lE a w → wpSch P l.toArray Q S ds tail a w) : (Code.region id l.toArray true).wp P Q a w := by
  simp only [Bool.and_eq_true, beq_iff_eq] at hB
  obtain ⟨⟨⟨⟨h1, h2⟩, h3⟩, h4⟩, h5⟩ := hB
  refine wp_region_last_drew (S := S) (ds := ds) hm hS fun hS' => ?_
  rw [← h2] at h3 ⊢
  refine to_sound h1 hQ (fun a w hS hI => ?_) pre _ a _ h3 hS' h
  refine inv_sound (fun a w hS hI => ?_) ?_ n l1 a w h4 hS hI
  · exact sch_sound h1 hQ tail lE a w h5 (.inl hS) (fin a w hS hI)
  · intro i D hD l' a w h6 h7 hS hI
    obtain ⟨o, ho, hK⟩ := step i D hD l' a w h6 h7 hS hI
    exact ⟨o, by simpa using ho, hK⟩

theorem to_held {ops : Array Oper} {S : World → Prop} {R : Act → World → Prop} {r : List Nat} {i : Nat} {o : Oper} {a : Act} {w : World} {v : Value} {n : Nat} (ho : ops[i]? = some o) (hw : Region.wanted o (yielded ops a.tmps) = true) (hN : o.dst = some n) (hr : ∀ W, S W → (execOp a.eval o).run P W = .ok (.value v) W)
    (h : wpTo P ops S R r { a with tmps := a.tmps.setIfInBounds n v } w) : wpTo P ops S R (i :: r) a w :=
  ⟨o, v, ho, .inl ⟨hw, hr⟩, by rw [hN]; exact h⟩
theorem to_nil {ops : Array Oper} {S : World → Prop} {R : Act → World → Prop} {a : Act} {w : World} (h : R a w) : wpTo P ops S R [] a w := h

/-- append(v, ys...) at an own row of whole numbers -/
theorem append_row_K {o : Oper} {a : Act} {Q : Exit → Act → World → Prop} {K : Act → World → Prop} {W : World} (base : Nat) (s x : Operand) (t e : TypeId) (k : IntKind) (bytes : Nat)
    (ho : o.op = .call { callee := .builtin .append, args := #[s, x], argTypes := #[t, t] })
    (ht : P.underlying t = some (.slice e)) (hinfo : (P.info? e).map (fun i => (i.zero, i.size, i.bytes)) = some (some (.int k 0), 1, bytes)) (hb0 : 0 < bytes)
    (v : Value) (xs ys : List Int) (A : Option Addr) (m c : Nat) (hs : a.eval s = v) (hx : a.eval x = .slice A m c)
    (HO : W.ownsRow base e 1 v xs.length (nums k xs)) (HR : ReadsInt W k A m ys) (hbase : base ≤ W.heap.size) (hl : (xs.length + m) * bytes ≤ 140737488355328)
    (h : ∀ v1 w1, w1.ownsRow base e 1 v1 (xs ++ ys).length (nums k (xs ++ ys)) → W.grownBy w1 v.ownBlock → (v1.ownBlock = v.ownBlock ∨ ∃ b, v1.ownBlock = some b ∧ W.heap.size ≤ b) → K (a.put o.dst v1) w1) :
    Oper.wp P o a W K Q := by
  obtain ⟨i0, hi, hzz⟩ := Option.map_eq_some_iff.1 hinfo
  simp only [Prod.mk.injEq] at hzz
  obtain ⟨hz0, hz1, hz2⟩ := hzz
  have hm : ys.length = m := HR.1
  have hlen : xs.length + m ≤ 140737488355328 := Nat.le_trans (Nat.le_mul_of_pos_right _ hb0) hl
  have hrun : ∃ v1 w1, (Builtin.append_ #[t, t] o.type #[v, .slice A m c]).run P W = .ok v1 w1 ∧ w1.ownsRow base e 1 v1 (xs ++ ys).length (nums k (xs ++ ys)) ∧ W.grownBy w1 v.ownBlock ∧ (v1.ownBlock = v.ownBlock ∨ v1.ownBlock = some W.heap.size) := by
    rcases A with _ | ad
    · have h0 : m = 0 := by
        rcases Nat.eq_zero_or_pos m with h0 | h0
        · exact h0
        · obtain ⟨ad, h, _⟩ := HR.2.2 h0
          cases h
      subst h0
      obtain rfl : ys = [] := List.eq_nil_of_length_eq_zero hm
      refine ⟨v, W, ?_, by simpa using HO, World.grownBy.refl W _, .inl rfl⟩
      rcases HO.2 with ⟨rfl, hn⟩ | ⟨g, cap, cur, rfl, _, _, hnc, _⟩
      · simp [Builtin.append_, run_underlying ht, sizeOf, typeInfo, hi, Builtin.lenOf, Builtin.firstCells]
      · simp [Builtin.append_, run_underlying ht, sizeOf, typeInfo, hi, Builtin.lenOf, Builtin.firstCells, hnc, storeCells]
    · have hcells : ∀ j u, (nums k ys)[j]? = some u → W.cell? (ad.add j) = some u := by
        intro j u hu
        have hj : j < ys.length := by
          rcases Nat.lt_or_ge j ys.length with h | h
          · exact h
          · simp [nums, List.getElem?_eq_none h] at hu
        obtain ⟨ad', h', hc⟩ := HR.2.2 (by omega)
        injection h' with h'
        subst h'
        have := hc j (by omega)
        simp [nums, List.getElem?_eq_getElem hj] at hu
        subst hu
        rw [this]
        simp [List.getD_eq_getElem?_getD, List.getElem?_eq_getElem hj]
      obtain ⟨v1, w1, hr, h2, h3, _, h5⟩ := run_append_own_at (P := P) W base t o.type e i0 (.int k 0) 1 bytes ht hi hz0 hz1 hz2 rfl (by omega) v xs.length (nums k xs) HO ad m c (nums k ys) (by simp [nums, hm]) hcells
        (by intro u hu; simp only [nums, List.mem_map] at hu; obtain ⟨q, _, rfl⟩ := hu; rfl) (by simp only [maxLen]; omega) hl hbase
      exact ⟨v1, w1, hr, by simpa [nums, hm] using h2, h3, h5⟩
  obtain ⟨v1, w1, hr, hown, hg, hat⟩ := hrun
  unfold Oper.wp execOp
  simp only [ho, resolve, invoke, builtin, Sem.run_bind, Sem.run_pure, Result.andThen_ok, List.map_toArray, List.map_cons, List.map_nil, hs, hx, hr]
  refine h v1 w1 hown hg ?_
  rcases hat with hat | hat
  · exact .inl hat
  · exact .inr ⟨_, hat, Nat.le_refl _⟩
end Go.Reg
