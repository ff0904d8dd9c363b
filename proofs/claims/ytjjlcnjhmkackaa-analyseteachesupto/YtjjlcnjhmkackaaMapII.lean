/-
  Maps from int to int that a call owns, told by a function from Int to Option Int: made, looked up, stored into, deleted from, ranged over. Over any program. No condition.
-/
import Derived.Maps.RangeWalk
import Derived.Maps.OwnSet
import Derived.WalkKit
import Derived.Deep.Draws
namespace Go.MapII
open Go.Maps Go.RowKit
set_option linter.unusedVariables false

/-- an int of 64 bits -/
def Fits (x : Int) : Prop := (Lit.int .i64 x).wf = true
instance (x : Int) : Decidable (Fits x) := inferInstanceAs (Decidable ((Lit.int .i64 x).wf = true))
theorem fits_iff {x : Int} : Fits x ↔ -9223372036854775808 ≤ x ∧ x ≤ 9223372036854775807 := by
  unfold Fits
  simp [Lit.wf, IntKind.min, IntKind.max, IntKind.signed, IntKind.bits]
theorem fits_wrap (x : Int) : Fits (wrap64 x) := fits_iff.2 (by unfold wrap64; omega)

/-- block b is a map of at most n entries that holds just what f tells -/
def Own (P : Program) (kt et : TypeId) (w : World) (b n : Nat) (f : Int → Option Int) : Prop :=
  ∃ D : DataW Unit, w.ownsMap P kt (plainElem P et) b n D ∧ ∀ x, Fits x → Maps.has D (.int .i64 x) = (f x).isSome ∧ (∀ c, f x = some c → ∀ z, D.atKey (.int .i64 x) z = .lit (.int .i64 c)) ∧ (∀ c, f x = some c → Fits c)

def upd (f : Int → Option Int) (k v : Int) : Int → Option Int := fun x => if x = k then some v else f x
def del (f : Int → Option Int) (k : Int) : Int → Option Int := fun x => if x = k then none else f x

section
variable {P : Program} {t kt et : TypeId} {w : World} {b n : Nat} {f : Int → Option Int}

theorem lt (h : Own P kt et w b n f) : b < w.heap.size := by obtain ⟨D, h, _⟩ := h; exact h.lt
theorem mono (h : Own P kt et w b n f) {n' : Nat} (hn : n ≤ n') : Own P kt et w b n' f := by obtain ⟨D, h, r⟩ := h; exact ⟨D, h.mono hn, r⟩
theorem kept {w' : World} {row : Option Nat} (h : Own P kt et w b n f) (hg : w.grownBy w' row) (hne : some b ≠ row) : Own P kt et w' b n f := by
  obtain ⟨D, h, r⟩ := h; exact ⟨D, h.kept hg hne, r⟩
theorem of_block {w' : World} (h : Own P kt et w b n f) (hb : w'.heap[b]? = w.heap[b]?) : Own P kt et w' b n f := by
  obtain ⟨D, ⟨es, clock, h1, r1⟩, r⟩ := h
  exact ⟨D, ⟨es, clock, hb.trans h1, r1⟩, r⟩
theorem alloc (h : Own P kt et w b n f) (o : Obj) : Own P kt et (w.alloc o) b n f := by
  obtain ⟨D, h, r⟩ := h; exact ⟨D, h.alloc o, r⟩
theorem drewN (h : Own P kt et w b n f) (m : Nat) : Own P kt et (w.drewN m) b n f := of_block h rfl
theorem setCell (h : Own P kt et w b n f) {a : Addr} (ha : b ≠ a.block) (u : Value) : Own P kt et (w.setCell a u) b n f := by
  obtain ⟨D, h, r⟩ := h; exact ⟨D, h.setCell ha u, r⟩
theorem made (w : World) (P : Program) (kt et : TypeId) : Own P kt et (w.alloc (.map #[] 0)) w.heap.size 0 (fun _ => none) :=
  ⟨.map [], World.ownsMap_made _ _ _ _, fun x _ => ⟨rfl, fun c h _ => (Option.some_ne_none c h.symm).elim, fun c h => (Option.some_ne_none c h.symm).elim⟩⟩

theorem isKey (x : Int) : WideAt.IsKeyLit (.int .i64 x) := by simp [WideAt.IsKeyLit]
end

section
variable {P : Program} (w : World) {ops : Array Oper} {rest : List Oper} {o : Oper} {a : Act} {Q : Exit → Act → World → Prop}

/-- 'v, ok := m[k]' -/
theorem wp_lookup_ok (hg : o.guard = none) (m x : Operand) (t : TypeId) (hop : o.op = Op.lookup t m x true)
    (kt et : TypeId) (ht : P.underlying t = some (.map kt et)) (hk : P.underlying kt = some (.int .i64)) (he : P.underlying et = some (.int .i64)) (hz : (zeroValue et).run P w = .ok (.int .i64 0) w) (b n : Nat) (f : Int → Option Int)
    (hm : a.eval m = .map (some b)) (hown : Own P kt et w b n f) (key : Int) (hx : a.eval x = .int .i64 key) (hkey : Fits key)
    (hK : wpList P ops Q rest (a.put o.dst (.tuple #[.int .i64 ((f key).getD 0), .bool (f key).isSome])) w) :
    wpList P ops Q (o :: rest) a w := by
  obtain ⟨D, ho, hf⟩ := hown
  obtain ⟨h1, h2, h3⟩ := hf key hkey
  refine wpList_lookup_own_ok_int w hg m x t hop kt et .i64 (int_keyed hk) ht he hz b n D hm ho _ _ hx (keyOf_int_mk hk hkey) ?_
  intro c hat hwc
  rw [h1]
  cases hfk : f key with
  | none =>
    rw [hfk] at h1
    rw [atKey_of_not_has (by simpa using h1)] at hat
    have : c = 0 := by cases hat; rfl
    subst this
    simpa [hfk] using hK
  | some c' =>
    rw [h2 c' hfk] at hat
    have : c = c' := by cases hat; rfl
    subst this
    simpa [hfk] using hK

/-- 'm[k]' -/
theorem wp_lookup (hg : o.guard = none) (m x : Operand) (t : TypeId) (hop : o.op = Op.lookup t m x false)
    (kt et : TypeId) (ht : P.underlying t = some (.map kt et)) (hk : P.underlying kt = some (.int .i64)) (he : P.underlying et = some (.int .i64)) (hz : (zeroValue et).run P w = .ok (.int .i64 0) w) (b n : Nat) (f : Int → Option Int)
    (hm : a.eval m = .map (some b)) (hown : Own P kt et w b n f) (key : Int) (hx : a.eval x = .int .i64 key) (hkey : Fits key)
    (hK : wpList P ops Q rest (a.put o.dst (.int .i64 ((f key).getD 0))) w) :
    wpList P ops Q (o :: rest) a w := by
  obtain ⟨D, ho, hf⟩ := hown
  obtain ⟨h1, h2, h3⟩ := hf key hkey
  refine wpList_lookup_own_int w hg m x t hop kt et .i64 (int_keyed hk) ht he hz b n D hm ho _ _ hx (keyOf_int_mk hk hkey) ?_
  intro c hat hwc
  cases hfk : f key with
  | none =>
    rw [hfk] at h1
    rw [atKey_of_not_has (by simpa using h1)] at hat
    have : c = 0 := by cases hat; rfl
    subst this
    simpa [hfk] using hK
  | some c' =>
    rw [h2 c' hfk] at hat
    have : c = c' := by cases hat; rfl
    subst this
    simpa [hfk] using hK

/-- 'm[k] = v' -/
theorem wp_update (hg : o.guard = none) (m x v : Operand) (t : TypeId) (hop : o.op = Op.mapUpdate t m x v)
    (kt et : TypeId) (ht : P.underlying t = some (.map kt et)) (hk : P.underlying kt = some (.int .i64)) (he : P.underlying et = some (.int .i64)) (b n : Nat) (f : Int → Option Int)
    (hm : a.eval m = .map (some b)) (hown : Own P kt et w b n f) (hn : n < maxLen) (key val : Int) (hx : a.eval x = .int .i64 key) (hv : a.eval v = .int .i64 val) (hkey : Fits key) (hval : Fits val)
    (hK : ∀ w', Own P kt et w' b (n + 1) (upd f key val) → w.grownBy w' (some b) → w'.heap.size = w.heap.size → wpList P ops Q rest (a.put o.dst undef) w') :
    wpList P ops Q (o :: rest) a w := by
  obtain ⟨D, ho, hf⟩ := hown
  have hd : DataW Unit := D
  refine wpList_plain hg fun K' hK' => ?_
  obtain ⟨w', hrun, r1, r2⟩ := ho.store (int_keyed hk) ht hn (keyOf_int_mk hk hkey) (plainElem_int he hval)
  have hsz : w'.heap.size = w.heap.size := by
    obtain ⟨es, clock, es', clock', _, rfl⟩ := r2
    simp [ChangeMaps.setBlock]
  unfold Oper.wp
  simp [execOp, hop, hm, hx, hv, hrun, Result.andThen]
  refine hK' _ _ (hK w' ⟨_, r1, fun y hy => ?_⟩ r2.grown hsz)
  obtain ⟨h1, h2, h3⟩ := hf y hy
  unfold upd
  by_cases e : y = key
  · subst e
    refine ⟨by simp [has_put_same ho.isMap (isKey _)], fun c hc z => ?_, fun c hc => ?_⟩
    · simp at hc; subst hc; exact atKey_put_same ho.isMap (isKey _) _ _
    · simp at hc; subst hc; exact hval
  · have hne : (Lit.int .i64 y) ≠ (Lit.int .i64 key) := fun h => e (by cases h; rfl)
    rw [if_neg e]
    exact ⟨by rw [has_put_other hne]; exact h1, fun c hc z => by rw [atKey_put_other hne]; exact h2 c hc z, h3⟩

/-- 'delete(m, k)' -/
theorem wp_delete (hg : o.guard = none) (m x : Operand) (t kt : TypeId) (hop : o.op = Op.call { callee := Callee.builtin Builtin.delete, args := #[m, x], argTypes := #[t, kt] })
    (et : TypeId) (ht : P.underlying t = some (.map kt et)) (hk : P.underlying kt = some (.int .i64)) (b n : Nat) (f : Int → Option Int)
    (hm : a.eval m = .map (some b)) (hown : Own P kt et w b n f) (key : Int) (hx : a.eval x = .int .i64 key) (hkey : Fits key)
    (hK : ∀ w', Own P kt et w' b n (del f key) → w.grownBy w' (some b) → w'.heap.size = w.heap.size → wpList P ops Q rest (a.put o.dst (.tuple #[])) w') :
    wpList P ops Q (o :: rest) a w := by
  obtain ⟨D, ho, hf⟩ := hown
  refine wpList_delete_own w hg m x t kt hop et (int_keyed hk) ht _ b n D hm ho _ _ hx (keyOf_int_mk hk hkey) ?_
  intro w' r1 r2
  have hsz : w'.heap.size = w.heap.size := by
    obtain ⟨es, clock, es', clock', _, rfl⟩ := r2
    simp [ChangeMaps.setBlock]
  refine hK w' ⟨_, r1, fun y hy => ?_⟩ r2.grown hsz
  obtain ⟨h1, h2, h3⟩ := hf y hy
  unfold del
  by_cases e : y = key
  · subst e
    exact ⟨by simp [has_del_same], fun c hc => by simp at hc, fun c hc => by simp at hc⟩
  · have hne : (Lit.int .i64 y) ≠ (Lit.int .i64 key) := fun h => e (by cases h; rfl)
    rw [if_neg e]
    exact ⟨by rw [has_del_other hne]; exact h1, fun c hc z => by rw [atKey_del_other hne]; exact h2 c hc z, h3⟩

/-- 'range m' under way: r: the iterator's block; what is still to come -/
def Ranges (P : Program) (kt et : TypeId) (w : World) (b r n : Nat) (f : Int → Option Int) (left : Int → Bool) (cnt : Nat) : Prop :=
  ∃ (D : DataW Unit) (lf : Lit → Bool), w.ranges P kt (plainElem P et) b r n D lf cnt ∧ (∀ x, Fits x → Maps.has D (.int .i64 x) = (f x).isSome ∧ (∀ c, f x = some c → ∀ z, D.atKey (.int .i64 x) z = .lit (.int .i64 c)) ∧ (∀ c, f x = some c → Fits c)) ∧
    (∀ x, Fits x → lf (.int .i64 x) = left x) ∧ (∀ kl, lf kl = true → ∃ x, Fits x ∧ kl = .int .i64 x) ∧ (∀ x, left x = true → Fits x)

theorem Ranges.owns {P : Program} {kt et : TypeId} {w : World} {b r n : Nat} {f : Int → Option Int} {left : Int → Bool} {cnt : Nat} (h : Ranges P kt et w b r n f left cnt) : Own P kt et w b n f := by
  obtain ⟨D, lf, h1, h2, _⟩ := h
  exact ⟨D, h1.owns, h2⟩
theorem Ranges.left_eq {P : Program} {kt et : TypeId} {w : World} {b r n : Nat} {f : Int → Option Int} {left : Int → Bool} {cnt : Nat} (h : Ranges P kt et w b r n f left cnt) : w.rangeLeft b r = cnt := by
  obtain ⟨D, lf, h1, h2, _⟩ := h
  exact h1.left_eq
theorem Ranges.lt {P : Program} {kt et : TypeId} {w : World} {b r n : Nat} {f : Int → Option Int} {left : Int → Bool} {cnt : Nat} (h : Ranges P kt et w b r n f left cnt) : r < w.heap.size := by
  obtain ⟨D, lf, h1, h2, _⟩ := h
  exact h1.lt
theorem Ranges.kept {P : Program} {kt et : TypeId} {w w' : World} {b r n : Nat} {f : Int → Option Int} {left : Int → Bool} {cnt : Nat} {row : Option Nat} (h : Ranges P kt et w b r n f left cnt) (hg : w.grownBy w' row) (hb : some b ≠ row) (hr : some r ≠ row) : Ranges P kt et w' b r n f left cnt := by
  obtain ⟨D, lf, h1, h2⟩ := h
  exact ⟨D, lf, h1.kept hg hb hr, h2⟩

theorem fits_of_has {D : DataW Unit} {kt : TypeId} {R : Value → Option (DataW Unit × List MemPlace)} {b n : Nat} {w : World} (hk : P.underlying kt = some (.int .i64)) (h : w.ownsMap P kt R b n D) {kl : Lit} (hh : Maps.has D kl = true) : ∃ x, Fits x ∧ kl = .int .i64 x := by
  obtain ⟨es, clock, hb, F, hs, rfl⟩ := h
  rw [Maps.has_eq, List.any_eq_true] at hh
  obtain ⟨p, hp, hs⟩ := hh
  have hp' := (mem_sorted).1 hp
  obtain ⟨v, hv⟩ := Maps.fit_keys F p hp'
  obtain ⟨x, rfl, e, hw⟩ := Maps.keyOf_int_inv hk hv
  refine ⟨x, hw, ?_⟩
  by_cases e2 : p.1 = kl
  · rw [← e2, e]
  · rw [Maps.sameKey_ne e2] at hs; cases hs

theorem wp_range (hg : o.guard = none) (m : Operand) (t : TypeId) (hop : o.op = Op.range t m) (kt et : TypeId) (ht : P.underlying t = some (.map kt et)) (hk : P.underlying kt = some (.int .i64)) (b n : Nat) (f : Int → Option Int)
    (hm : a.eval m = .map (some b)) (hown : Own P kt et w b n f)
    (hK : ∀ w' cnt, Ranges P kt et w' b w.heap.size n f (fun x => decide (Fits x) && (f x).isSome) cnt → w.grownBy w' none → w'.heap.size = w.heap.size + 1 → cnt ≤ n → wpList P ops Q rest (a.put o.dst (.pointer (some ⟨w.heap.size, 0, none⟩))) w') :
    wpList P ops Q (o :: rest) a w := by
  obtain ⟨D, ho, hf⟩ := hown
  refine wpList_range_own w hg m t hop kt et (int_keyed hk) ht _ b n D hm ho ?_
  intro w' hr h1 h2
  refine hK w' _ ⟨D, _, hr, hf, fun x hx => ?_, fun kl hl => fits_of_has hk ho hl, fun x hx => ?_⟩ h1 h2 ho.size_le
  · rw [(hf x hx).1]; simp [hx]
  · simp at hx; exact hx.1

theorem wp_next (hg : o.guard = none) (it : Operand) (hop : o.op = Op.next it false) (kt et : TypeId) (hk : P.underlying kt = some (.int .i64)) (he : P.underlying et = some (.int .i64))
    (b r n : Nat) (f : Int → Option Int) (left : Int → Bool) (cnt : Nat) (hit : a.eval it = .pointer (some ⟨r, 0, none⟩)) (h : Ranges P kt et w b r n f left cnt)
    (hDone : cnt = 0 → (∀ x, left x = false) → wpList P ops Q rest (a.put o.dst (.tuple #[.bool false])) w)
    (hMore : ∀ (x c : Int) (w' : World) (cnt' : Nat), Fits x → left x = true → f x = some c → Ranges P kt et w' b r n f (fun z => left z && !decide (z = x)) cnt' → cnt' < cnt →
      w.grownBy w' (some r) → w'.heap.size = w.heap.size → (Instr.entry (.pointer (some ⟨r, 0, none⟩))).run P w' = .ok (.tuple #[.int .i64 x, .int .i64 c]) w' → wpList P ops Q rest (a.put o.dst (.tuple #[.bool true, .int .i64 x, .int .i64 c])) w') :
    wpList P ops Q (o :: rest) a w := by
  obtain ⟨D, lf, h1, h2, h3, h4, h5⟩ := h
  refine wpList_next_ranges_ii w hg it hop kt et .i64 .i64 (int_keyed hk) hk he b r n D lf cnt hit h1 ?_ ?_
  · intro h0 hl
    refine hDone h0 fun x => ?_
    cases hx : left x with
    | false => rfl
    | true => rw [← h3 x (h5 x hx), hl] at hx; cases hx
  · intro x c w' cnt' hx hc hl hat hr hlt hgr hsz hen
    have hlx : left x = true := by rw [← h3 x hx]; exact hl
    obtain ⟨g1, g2, g3⟩ := h2 x hx
    have hfx : f x = some c := by
      cases hfx : f x with
      | none =>
        rw [hfx] at g1
        have hat0 := hat (.lit (.int .i64 (c + 1)))
        rw [atKey_of_not_has (by simpa using g1)] at hat0
        injection hat0 with hat0
        injection hat0 with _ hat0
        omega
      | some c' =>
        have := g2 c' hfx (.lit (.int .i64 0))
        rw [hat] at this
        cases this; rfl
    refine hMore x c w' cnt' hx hlx hfx ⟨D, _, hr, h2, fun y hy => ?_, fun kl hkl => ?_, fun y hy => ?_⟩ hlt hgr hsz hen
    · show (lf (.int .i64 y) && !(Lit.int .i64 y).sameKey (.int .i64 x)) = _
      rw [h3 y hy]
      by_cases e : y = x
      · subst e
        have : (Lit.int .i64 y).sameKey (.int .i64 y) = true := by simp [Lit.sameKey]
        simp [this]
      · have hne : (Lit.int .i64 y) ≠ (Lit.int .i64 x) := fun h => e (by cases h; rfl)
        simp [Maps.sameKey_ne hne, e]
    · simp at hkl
      exact h4 kl hkl.1
    · simp at hy
      exact h5 y hy.1
end

/-- the two look-ups as equations, for a region that draws its order -/
theorem run_lookup {P : Program} {t kt et : TypeId} {w : World} {b n : Nat} {f : Int → Option Int} (ht : P.underlying t = some (.map kt et)) (hk : P.underlying kt = some (.int .i64)) (he : P.underlying et = some (.int .i64)) (hz : (zeroValue et).run P w = .ok (.int .i64 0) w)
    (hown : Own P kt et w b n f) (key : Int) (hkey : Fits key) : (Instr.lookup t (.map (some b)) (.int .i64 key) false).run P w = .ok (.int .i64 ((f key).getD 0)) w := by
  obtain ⟨D, ho, hf⟩ := hown
  obtain ⟨h1, h2, h3⟩ := hf key hkey
  obtain ⟨c, hrun, hat, hwc⟩ := ho.lookup_int (int_keyed hk) ht he hz (keyOf_int_mk hk hkey)
  rw [hrun]
  cases hfk : f key with
  | none =>
    rw [hfk] at h1
    rw [atKey_of_not_has (by simpa using h1)] at hat
    have : c = 0 := by cases hat; rfl
    subst this
    rfl
  | some c' =>
    rw [h2 c' hfk] at hat
    have : c = c' := by cases hat; rfl
    subst this
    rfl
theorem run_lookup_ok {P : Program} {t kt et : TypeId} {w : World} {b n : Nat} {f : Int → Option Int} (ht : P.underlying t = some (.map kt et)) (hk : P.underlying kt = some (.int .i64)) (he : P.underlying et = some (.int .i64)) (hz : (zeroValue et).run P w = .ok (.int .i64 0) w)
    (hown : Own P kt et w b n f) (key : Int) (hkey : Fits key) : (Instr.lookup t (.map (some b)) (.int .i64 key) true).run P w = .ok (.tuple #[.int .i64 ((f key).getD 0), .bool (f key).isSome]) w := by
  obtain ⟨D, ho, hf⟩ := hown
  obtain ⟨h1, h2, h3⟩ := hf key hkey
  obtain ⟨v, ps, hrun, hv⟩ := ho.look_ok (int_keyed hk) ht hz (plainElem_int he (by decide)) (keyOf_int_mk hk hkey)
  rw [hrun, h1]
  obtain ⟨c, rfl, hc, hwc⟩ := plainElem_int_inv he hv
  have hat := congrArg Prod.fst hc
  dsimp only at hat
  cases hfk : f key with
  | none =>
    rw [hfk] at h1
    rw [atKey_of_not_has (by simpa using h1)] at hat
    have : c = 0 := by cases hat; rfl
    subst this
    rfl
  | some c' =>
    rw [h2 c' hfk] at hat
    have : c = c' := by cases hat; rfl
    subst this
    rfl

theorem keys_lits {H : Type} : ∀ (es : List (Lit × DataW H)) (L : List Int), es.Pairwise (fun p q => p.1 ≠ q.1) → (∀ p ∈ es, ∃ x, p.1 = .int .i64 x ∧ x ∈ L) → es.length ≤ L.length := by
  intro es L hp hm
  have hx : ∃ xs : List Int, es.map (·.1) = xs.map (Lit.int .i64) ∧ ∀ x ∈ xs, x ∈ L := by
    clear hp
    induction es with
    | nil => exact ⟨[], rfl, by simp⟩
    | cons p r ih =>
      obtain ⟨xs, h1, h2⟩ := ih fun q hq => hm q (List.mem_cons_of_mem _ hq)
      obtain ⟨x, hx, hl⟩ := hm p List.mem_cons_self
      exact ⟨x :: xs, by simp [h1, hx], fun y hy => by rcases List.mem_cons.1 hy with rfl | hy; exact hl; exact h2 y hy⟩
  obtain ⟨xs, h1, h2⟩ := hx
  have hn : xs.Nodup := by
    have h3 : (es.map (·.1)).Pairwise (· ≠ ·) := List.pairwise_map.2 hp
    rw [h1, List.pairwise_map] at h3
    exact h3.imp fun {a b} h e => h (by rw [e])
  have := hn.length_le_of_subset h2
  have h4 := congrArg List.length h1
  simp at h4
  omega
/-- a map has no more entries than keys -/
theorem tight {P : Program} {kt et : TypeId} {w : World} {b n : Nat} {f : Int → Option Int} (hk : P.underlying kt = some (.int .i64)) (h : Own P kt et w b n f) (L : List Int) (hL : ∀ x, (f x).isSome = true → x ∈ L) : Own P kt et w b L.length f := by
  obtain ⟨D, ho, hf⟩ := h
  have ho' := ho
  obtain ⟨es, clock, hb, F, hs, rfl⟩ := ho
  refine ⟨_, ⟨es, clock, hb, F, ?_, rfl⟩, hf⟩
  rw [← length_read (H := Unit) (P := P) (k := kt) (R0 := plainElem P et) es]
  obtain ⟨es2, e1, h1, _⟩ := ho'.entries (int_keyed hk)
  cases e1
  refine keys_lits _ L h1 fun p hp => ?_
  have hh : Maps.has (H := Unit) (DataW.map ((es.toList.map (WideElems.rg P kt (plainElem P et))).foldr DataW.insert [])) p.1 = true := by
    rw [Maps.has_eq, List.any_eq_true]
    obtain ⟨q, hq⟩ := Maps.fit_keys F p (mem_sorted.1 hp)
    obtain ⟨x, rfl, e, hw⟩ := Maps.keyOf_int_inv hk hq
    exact ⟨p, hp, by rw [e]; simp [Lit.sameKey]⟩
  obtain ⟨x, hx, e⟩ := fits_of_has hk ho' hh
  rw [e, (hf x hx).1] at hh
  exact ⟨x, e, hL x hh⟩
end Go.MapII
