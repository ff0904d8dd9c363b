/-
  The law's own small functions: ints, marks, level, same. No condition but that the slices lie as told.
  The reference's Sorted at literals none of which is another's opposite. No condition but that the slice lies as told.
-/
import Derived.Test.YtjjlcnjhmkackaaRep
set_option linter.unusedVariables false
set_option linter.unusedSimpArgs false
namespace Go.Proofs.Ytjjlcnjhmkackaa.T
open Go.RowKit Go.Proofs.YtjjlcnjhmkackaaW.PrintWords Go.Proofs.YtjjlcnjhmkackaaW.PrintLast Go.Proofs.YtjjlcnjhmkackaaW.PrintMore
open Go.Proofs.Ytjjlcnjhmkackaa.PA Go.MapII Go.Proofs

theorem set_prefix {α : Type} {l : List α} {z : α} {j : Nat} (h : j < l.length) : (l.take j ++ List.replicate (l.length - j) z).set j l[j] = l.take (j + 1) ++ List.replicate (l.length - (j + 1)) z := by
  rw [List.take_succ_eq_append_getElem h]
  obtain ⟨m, hm⟩ : ∃ m, l.length - j = m + 1 := ⟨l.length - j - 1, by omega⟩
  have hm2 : l.length - (j + 1) = m := by omega
  rw [hm, hm2, List.replicate_succ, List.set_append_right _ _ (by simp; omega)]
  have : j - (l.take j).length = 0 := by simp; omega
  rw [this, List.set_cons_zero, List.append_assoc]
  rfl
theorem wrap_succ {j : Nat} {n : Nat} (h : j < n) (hn : n ≤ 9223372036854775806) : wrap64 ((j : Int) + 1) = ((j + 1 : Nat) : Int) := by unfold wrap64; omega

theorem ints_ev (l : List Int) (hl : l.length ≤ 9223372036854775806) : ∀ (n j : Nat), n + j = l.length → fulcrumlaw21_ints.l0 (n + 1) l (l.take j ++ List.replicate (l.length - j) 0) (j : Int) = some l
  | 0, j, h => by
    unfold fulcrumlaw21_ints.l0
    rw [if_neg (by omega)]
    have : l.length - j = 0 := by omega
    rw [this, List.take_of_length_le (by omega)]
    simp
  | n + 1, j, h => by
    have hj : j < l.length := by omega
    unfold fulcrumlaw21_ints.l0
    rw [if_pos (by omega), if_pos (by omega), if_pos (by simp; omega), wrap_succ hj hl]
    have hr : rd l (j : Int) = l[j] := by simp [rd, List.getD_eq_getElem?_getD, List.getElem?_eq_getElem hj]
    rw [hr, Int.toNat_natCast, set_prefix hj]
    exact ints_ev l hl n (j + 1) (by omega)
theorem ints_calls {w : World} {A : Option Addr} {c : Nat} {l : List Int} (hr : Kd.C (Kd.int .i64) w A l.length l) (hc : l.length ≤ c) (hl : l.length ≤ 1099511627776 * 8) :
    Calls Try.prog 17 #[.slice A l.length c] w fun e w' => ∃ v, e = .returned v ∧ w'.ownsRow w.heap.size 3 1 v l.length (nums .i64 l) ∧ Below w.heap.size w w' := by
  have hf : fulcrumlaw21_ints.f (l.length + 1) l = some l := by
    unfold fulcrumlaw21_ints.f
    rw [if_pos (by omega), if_pos (by omega)]
    have := ints_ev l (by omega) l.length 0 (by omega)
    simpa using this
  refine (fulcrumlaw21_ints.calls (l.length + 1) A c l l w hr hc hf).mono ?_
  rintro e w' ⟨v, rfl, h1, h2⟩
  exact ⟨v, rfl, Kd.own_of_R h1, h2⟩

theorem marks_ev (l : List S54) (hl : l.length ≤ 9223372036854775806) : ∀ (n j : Nat), n + j = l.length → fulcrumlaw21_marks.l0 (n + 1) l (l.take j ++ List.replicate (l.length - j) z54) (j : Int) = some l
  | 0, j, h => by
    unfold fulcrumlaw21_marks.l0
    rw [if_neg (by omega)]
    have : l.length - j = 0 := by omega
    rw [this, List.take_of_length_le (by omega)]
    simp
  | n + 1, j, h => by
    have hj : j < l.length := by omega
    unfold fulcrumlaw21_marks.l0
    rw [if_pos (by omega), if_pos (by omega), if_pos (by simp; omega), wrap_succ hj hl]
    have hr : rd_T54 l (j : Int) = l[j] := by simp [rd_T54, List.getD_eq_getElem?_getD, List.getElem?_eq_getElem hj]
    rw [hr, Int.toNat_natCast]
    have hs : (⟨l[j].f0, l[j].f1, l[j].f2⟩ : S54) = l[j] := rfl
    rw [hs, set_prefix hj]
    exact marks_ev l hl n (j + 1) (by omega)
theorem marks_calls {w : World} {A : Option Addr} {c : Nat} {l : List S54} (hr : Kd.C k54 w A l.length l) (hc : l.length ≤ c) (hl : l.length ≤ 1099511627776) :
    Calls Try.prog 6 #[.slice A l.length c] w fun e w' => ∃ A' c', e = .returned (.slice A' l.length c') ∧ l.length ≤ c' ∧ Kd.C k54 w' A' l.length l ∧ Below w.heap.size w w' := by
  have hf : fulcrumlaw21_marks.f (l.length + 1) l = some l := by
    unfold fulcrumlaw21_marks.f
    rw [if_pos (by omega), if_pos (by omega)]
    have := marks_ev l (by omega) l.length 0 (by omega)
    simpa using this
  refine (fulcrumlaw21_marks.calls (l.length + 1) A c l l w hr hc hf).mono ?_
  rintro e w' ⟨v, rfl, h1, h2⟩
  obtain ⟨A', c', rfl, h3, h4⟩ := Kd.R_reads h1
  exact ⟨A', c', rfl, h3, h4, h2⟩

theorem level_ev (M : List S54) (x : Int) (hl : M.length ≤ 9223372036854775806) (p : Nat) (hp : p < M.length) (hx : (rd_T54 M (p : Int)).f0 = wrap64 (-x)) : ∀ (n j : Nat), n + j = p → (∀ i : Nat, i < p → (rd_T54 M (i : Int)).f0 ≠ wrap64 (-x)) → fulcrumlaw21_level.l0 (n + 1) M x (j : Int) = some (rd_T54 M (p : Int)).f1
  | 0, j, h, hn => by
    obtain rfl : j = p := by omega
    unfold fulcrumlaw21_level.l0
    rw [if_pos (by omega), if_pos (by omega), if_pos hx]
  | n + 1, j, h, hn => by
    unfold fulcrumlaw21_level.l0
    rw [if_pos (by omega), if_pos (by omega), if_neg (hn j (by omega)), wrap_succ (n := M.length) (by omega) hl]
    exact level_ev M x hl p hp hx n (j + 1) (by omega) hn
/-- level of a literal that is false -/
theorem level_calls {w : World} {A : Option Addr} {c : Nat} {f : Int → Option Int} {C : List (List Int)} {M : List S54} (hr : Kd.C k54 w A M.length M) (hc : M.length ≤ c) (hM : M.length ≤ 1099511627776) (V : Vd f C M) (hb : ∀ i : Int, 0 ≤ i → i < M.length → f (rd_T54 M i).f0 = some i) (x : Int) (hx : (f (neg x)).isSome = true) :
    Calls Try.prog 24 #[.slice A M.length c, .int .i64 x] w fun e w' => e = .returned (.int .i64 (lvl f M x)) ∧ Drawn0 w w' := by
  obtain ⟨h1, h2, h3, h4, h5⟩ := V.at hx
  obtain ⟨p, hp⟩ := Int.eq_ofNat_of_zero_le h2
  have hf : fulcrumlaw21_level.f (p + 1) M x = some (lvl f M x) := by
    unfold fulcrumlaw21_level.f lvl
    rw [h4, hp]
    rw [h4, hp] at h5
    refine level_ev M x (by omega) p (by omega) h5 p 0 (by omega) (fun i hi e => ?_)
    have h6 := hb (i : Int) (by omega) (by omega)
    have h7 := h1
    rw [e] at h6
    have : f (neg x) = some (i : Int) := h6
    rw [h7, hp] at this
    injection this with this
    omega
  exact fulcrumlaw21_level.calls (p + 1) A c M x _ w hr hc hf

theorem same_ev (a b : List Int) (hl : a.length ≤ 9223372036854775806) (hab : a.length = b.length) : ∀ (n j : Nat), n + j = a.length → fulcrumlaw21_same.l0 (n + 1) a b (j : Int) = some (decide (a.drop j = b.drop j))
  | 0, j, h => by
    unfold fulcrumlaw21_same.l0
    rw [if_neg (by omega), List.drop_eq_nil_of_le (by omega), List.drop_eq_nil_of_le (by omega)]
    simp
  | n + 1, j, h => by
    have hj : j < a.length := by omega
    unfold fulcrumlaw21_same.l0
    rw [if_pos (by omega), if_pos (by omega), if_pos (by omega), wrap_succ hj hl, drop_rd hj, drop_rd (c := b) (by omega)]
    by_cases e : rd a (j : Int) = rd b (j : Int)
    · rw [if_pos e, same_ev a b hl hab n (j + 1) (by omega)]
      simp [e]
    · rw [if_neg e]
      simp [e]
theorem same_calls {w : World} {A B : Option Addr} {ca cb : Nat} {a b : List Int} (ha : Kd.C (Kd.int .i64) w A a.length a) (hca : a.length ≤ ca) (hb : Kd.C (Kd.int .i64) w B b.length b) (hcb : b.length ≤ cb) (hl : a.length ≤ 1099511627776 * 8) :
    Calls Try.prog 18 #[.slice A a.length ca, .slice B b.length cb] w fun e w' => e = .returned (.bool (decide (a = b))) ∧ Drawn0 w w' := by
  refine fulcrumlaw21_same.calls (a.length + 1) A ca a B cb b _ w ha hca hb hcb ?_
  unfold fulcrumlaw21_same.f
  by_cases e : a.length = b.length
  · rw [if_pos (by omega)]
    have := same_ev a b (by omega) e a.length 0 (by omega)
    simpa using this
  · rw [if_neg (by omega)]
    have : a ≠ b := fun h => e (by rw [h])
    simp [this]
end Go.Proofs.Ytjjlcnjhmkackaa.T
set_option linter.unusedVariables false
set_option linter.unusedSimpArgs false
namespace Go.Proofs.Ytjjlcnjhmkackaa.T
open Go.RowKit Go.Proofs.YtjjlcnjhmkackaaW.PrintWords Go.Proofs.YtjjlcnjhmkackaaW.PrintLast Go.Proofs.YtjjlcnjhmkackaaW.PrintMore
open Go.Proofs.Ytjjlcnjhmkackaa.PA Go.MapII Go.Proofs

theorem has_ev (l : List Int) (x : Int) (hl : l.length ≤ 9223372036854775806) : ∀ (n j k : Nat), n + j = l.length → n < k → fulcrumref21_has.l0 k l x (j : Int) = some (decide (x ∈ l.drop j))
  | n, j, 0, h, hk => by omega
  | n, j, k + 1, h, hk => by
    unfold fulcrumref21_has.l0
    by_cases hj : j < l.length
    · rw [if_pos (by omega), if_pos (by omega), wrap_succ hj hl, drop_rd hj]
      by_cases e : rd l (j : Int) = x
      · rw [if_pos e]; simp [e]
      · rw [if_neg e, has_ev l x hl (n - 1) (j + 1) k (by omega) (by omega)]
        have e2 : ¬ x = rd l (j : Int) := fun h => e h.symm
        simp [e2]
    · rw [if_neg (by omega), List.drop_eq_nil_of_le (by omega)]; simp
theorem set_ev (l : List Int) (hl : l.length ≤ 1099511627776) (hn : l.Nodup) : ∀ (n j k : Nat), n + j = l.length → n + l.length < k → fulcrumref21_set.l0 k l (l.take j) (j : Int) = some l
  | n, j, 0, h, hk => by omega
  | n, j, k + 1, h, hk => by
    unfold fulcrumref21_set.l0
    by_cases hj : j < l.length
    · rw [if_pos (by omega), if_pos (by omega), wrap_succ hj (by omega)]
      have h1 : fulcrumref21_has.f k (l.take j) (rd l (j : Int)) = some (decide (rd l (j : Int) ∈ l.take j)) := by
        have := has_ev (l.take j) (rd l (j : Int)) (by simp; omega) (l.take j).length 0 k (by omega) (by simp; omega)
        simpa [fulcrumref21_has.f] using this
      have h2 : rd l (j : Int) ∉ l.take j := by
        intro hm
        have h3 := hn
        rw [← List.take_append_drop j l, List.nodup_append] at h3
        exact h3.2.2 _ hm _ (by rw [drop_rd hj]; simp) rfl
      rw [h1]
      simp only [h2, decide_false, Option.bind_some, Bool.false_eq_true, if_false]
      rw [if_pos (by simp; omega), ← take_rd hj]
      exact set_ev l hl hn (n - 1) (j + 1) k (by omega) (by omega)
    · rw [if_neg (by omega), List.take_of_length_le (by omega)]
theorem without_ev (l : List Int) (x : Int) (hl : l.length ≤ 1099511627776) : ∀ (n j k : Nat) (acc : List Int), n + j = l.length → n < k → acc.length + n ≤ 1099511627776 → fulcrumref21_without.l0 k l x acc (j : Int) = some (acc ++ (l.drop j).filter (fun y => decide (y ≠ x)))
  | n, j, 0, acc, h, hk, ha => by omega
  | n, j, k + 1, acc, h, hk, ha => by
    unfold fulcrumref21_without.l0
    by_cases hj : j < l.length
    · rw [if_pos (by omega), if_pos (by omega), wrap_succ hj (by omega), drop_rd hj]
      by_cases e : rd l (j : Int) = x
      · rw [if_pos e, without_ev l x hl (n - 1) (j + 1) k acc (by omega) (by omega) (by omega)]
        simp [e]
      · rw [if_neg e, if_pos (by omega), without_ev l x hl (n - 1) (j + 1) k (acc ++ [rd l (j : Int)]) (by omega) (by omega) (by simp; omega)]
        simp [e]
    · rw [if_neg (by omega), List.drop_eq_nil_of_le (by omega)]; simp

theorem ahead_ev {x y : Int} (hx : Fits x) (hy : Fits y) (ax : atomOf x ≠ 0) (ay : atomOf y ≠ 0) (h : atomOf x = atomOf y → x = y) : fulcrumref21_Ahead.f x y = some (decide (atomOf x < atomOf y)) := by
  obtain ⟨x0, xm, _⟩ := neg_lit hx ax
  obtain ⟨y0, ym, _⟩ := neg_lit hy ay
  have hxx : atomOf x = if x < 0 then wrap64 (-x) else x := by unfold atomOf; rw [if_neg xm]
  have hyy : atomOf y = if y < 0 then wrap64 (-y) else y := by unfold atomOf; rw [if_neg ym]
  unfold fulcrumref21_Ahead.f
  have key : ∀ a b : Int, atomOf x = a → atomOf y = b → (if a < b then some true else if a = b then some (decide (x > y)) else some false) = some (decide (atomOf x < atomOf y)) := by
    intro a b ha hb
    subst ha hb
    by_cases c : atomOf x < atomOf y
    · simp [c]
    · rw [if_neg c]
      by_cases e : atomOf x = atomOf y
      · rw [if_pos e, h e]; simp
      · rw [if_neg e]; simp [c]
  by_cases cx : x < 0
  · rw [if_pos cx] at hxx
    rw [if_pos cx]
    by_cases cy : y < 0
    · rw [if_pos cy] at hyy
      rw [if_pos cy]; exact key _ _ hxx hyy
    · rw [if_neg cy] at hyy
      rw [if_neg cy]; exact key _ _ hxx hyy
  · rw [if_neg cx] at hxx
    rw [if_neg cx]
    by_cases cy : y < 0
    · rw [if_pos cy] at hyy
      rw [if_pos cy]; exact key _ _ hxx hyy
    · rw [if_neg cy] at hyy
      rw [if_neg cy]; exact key _ _ hxx hyy

/-- literals none of which is another's opposite -/
structure Lits (l : List Int) : Prop where
  nd : l.Nodup
  fits : ∀ x ∈ l, Fits x
  lit : ∀ x ∈ l, atomOf x ≠ 0
  inj : ∀ x ∈ l, ∀ y ∈ l, atomOf x = atomOf y → x = y

theorem sorted_min (rest out : List Int) (L : Lits rest) (hl : rest.length ≤ 1099511627776) (ho : out.length ≤ 1099511627776) (r : List Int) (K : Nat)
    (hr : ∀ z, z ∈ rest → (∀ y ∈ rest, atomOf z ≤ atomOf y) → ∀ k, K ≤ k → ∃ ys, fulcrumref21_Sorted.l0 k (out ++ [z]) (rest.filter (fun y => decide (y ≠ z))) = some (out ++ ys) ∧ ys.Perm rest ∧ ys.Pairwise (fun a b => atomOf a < atomOf b)) :
    ∀ (n j k : Nat) (at_ : Int), n + j = rest.length → n + K + rest.length + 1 < k → at_ ∈ rest → (∀ y ∈ rest.take j, atomOf at_ ≤ atomOf y) → ∃ ys, fulcrumref21_Sorted.l1 k out rest at_ (j : Int) = some (out ++ ys) ∧ ys.Perm rest ∧ ys.Pairwise (fun a b => atomOf a < atomOf b)
  | n, j, 0, at_, h, hk, hm, hmin => by omega
  | n, j, k + 1, at_, h, hk, hm, hmin => by
    unfold fulcrumref21_Sorted.l1
    by_cases hj : j < rest.length
    · rw [if_pos (by omega), if_pos (by omega), wrap_succ hj (by omega)]
      have hz : rd rest (j : Int) ∈ rest := rd_mem hj
      rw [ahead_ev (L.fits _ hz) (L.fits _ hm) (L.lit _ hz) (L.lit _ hm) (L.inj _ hz _ hm)]
      simp only [Option.bind_some, decide_eq_true_eq]
      by_cases c : atomOf (rd rest (j : Int)) < atomOf at_
      · rw [if_pos c]
        refine sorted_min rest out L hl ho r K hr (n - 1) (j + 1) k _ (by omega) (by omega) hz (fun y hy => ?_)
        rw [take_rd hj] at hy
        rcases List.mem_append.1 hy with hy | hy
        · have := hmin y hy; omega
        · have : y = rd rest (j : Int) := by simpa using hy
          subst this; omega
      · rw [if_neg c]
        refine sorted_min rest out L hl ho r K hr (n - 1) (j + 1) k _ (by omega) (by omega) hm (fun y hy => ?_)
        rw [take_rd hj] at hy
        rcases List.mem_append.1 hy with hy | hy
        · exact hmin y hy
        · have : y = rd rest (j : Int) := by simpa using hy
          subst this; omega
    · rw [if_neg (by omega), if_pos (by omega)]
      rw [List.take_of_length_le (by omega)] at hmin
      have hw : fulcrumref21_without.f k rest at_ = some (rest.filter (fun y => decide (y ≠ at_))) := by
        have := without_ev rest at_ hl rest.length 0 k [] (by omega) (by omega) (by simp; omega)
        simpa [fulcrumref21_without.f] using this
      rw [hw]
      exact hr at_ hm hmin k (by omega)

theorem filter_ne_perm {l : List Int} (hn : l.Nodup) {z : Int} (hz : z ∈ l) : (z :: l.filter (fun y => decide (y ≠ z))).Perm l := by
  refine (List.perm_ext_iff_of_nodup ?_ hn).2 fun a => ?_
  · refine List.nodup_cons.2 ⟨by simp, hn.filter _⟩
  · by_cases e : a = z
    · subst e; simp [hz]
    · simp [e]

theorem sorted_ev : ∀ (m : Nat) (rest out : List Int), rest.length = m → Lits rest → out.length + rest.length ≤ 1099511627776 → ∃ K, ∀ k, K ≤ k → ∃ ys, fulcrumref21_Sorted.l0 k out rest = some (out ++ ys) ∧ ys.Perm rest ∧ ys.Pairwise (fun a b => atomOf a < atomOf b)
  | 0, rest, out, hm, L, hb => ⟨1, fun k hk => by
    obtain ⟨q, rfl⟩ : ∃ q, k = q + 1 := ⟨k - 1, by omega⟩
    have : rest = [] := List.eq_nil_of_length_eq_zero hm
    subst this
    unfold fulcrumref21_Sorted.l0
    exact ⟨[], by simp, List.Perm.nil, List.Pairwise.nil⟩⟩
  | m + 1, rest, out, hm, L, hb => by
    -- one K for each minimum: they are all of one literal
    have hne : rest ≠ [] := fun e => by rw [e] at hm; simp at hm
    have hK : ∃ K, ∀ z, z ∈ rest → (∀ y ∈ rest, atomOf z ≤ atomOf y) → ∀ k, K ≤ k → ∃ ys, fulcrumref21_Sorted.l0 k (out ++ [z]) (rest.filter (fun y => decide (y ≠ z))) = some (out ++ ys) ∧ ys.Perm rest ∧ ys.Pairwise (fun a b => atomOf a < atomOf b) := by
      by_cases hex : ∃ z, z ∈ rest ∧ ∀ y ∈ rest, atomOf z ≤ atomOf y
      · obtain ⟨z, hz, hmin⟩ := hex
        have hp := filter_ne_perm L.nd hz
        have hlen : (rest.filter (fun y => decide (y ≠ z))).length = m := by have := hp.length_eq; simp at this ⊢; omega
        have L2 : Lits (rest.filter (fun y => decide (y ≠ z))) := ⟨L.nd.filter _, fun x hx => L.fits x (List.mem_filter.1 hx).1, fun x hx => L.lit x (List.mem_filter.1 hx).1, fun x hx y hy => L.inj x (List.mem_filter.1 hx).1 y (List.mem_filter.1 hy).1⟩
        obtain ⟨K, hK⟩ := sorted_ev m _ (out ++ [z]) hlen L2 (by rw [hlen]; simp; omega)
        refine ⟨K, fun z2 hz2 hmin2 k hk => ?_⟩
        obtain rfl : z2 = z := L.inj z2 hz2 z hz (by have := hmin z2 hz2; have := hmin2 z hz; omega)
        obtain ⟨ys, h1, h2, h3⟩ := hK k hk
        refine ⟨z2 :: ys, by rw [h1]; simp, (h2.cons z2).trans hp, List.pairwise_cons.2 ⟨fun y hy => ?_, h3⟩⟩
        have hy2 := List.mem_filter.1 (h2.mem_iff.1 hy)
        have hle := hmin y hy2.1
        have hne2 : y ≠ z2 := by simpa using hy2.2
        have : atomOf z2 ≠ atomOf y := fun e => hne2 (L.inj z2 hz y hy2.1 e).symm
        omega
      · exact ⟨0, fun z hz hmin => absurd ⟨z, hz, hmin⟩ hex⟩
    obtain ⟨K, hK⟩ := hK
    refine ⟨K + 2 * rest.length + 3, fun k hk => ?_⟩
    obtain ⟨q, rfl⟩ : ∃ q, k = q + 1 := ⟨k - 1, by omega⟩
    unfold fulcrumref21_Sorted.l0
    rw [if_pos (by omega), if_pos (by omega)]
    have h0 : rd rest 0 ∈ rest := rd_mem (k := 0) (by omega)
    have hone : (1 : Int) = ((1 : Nat) : Int) := rfl
    rw [hone]
    refine sorted_min rest out L (by omega) (by omega) [] K hK (rest.length - 1) 1 q _ (by omega) (by omega) h0 (fun y hy => ?_)
    have h1 := take_rd (c := rest) (k := 0) (by omega)
    simp only [Nat.zero_add, List.take_zero, List.nil_append] at h1
    rw [h1] at hy
    have : y = rd rest 0 := by simpa using hy
    rw [this]
    exact Int.le_refl _
theorem sorted_calls {w : World} {A : Option Addr} {c : Nat} {l : List Int} (hr : Kd.C (Kd.int .i64) w A l.length l) (hc : l.length ≤ c) (hl : l.length ≤ 1099511627776) (L : Lits l) :
    Calls Try.prog 23 #[.slice A l.length c] w fun e w' => ∃ v ys, e = .returned v ∧ w'.ownsRow w.heap.size 3 1 v ys.length (nums .i64 ys) ∧ ys.Perm l ∧ ys.Pairwise (fun a b => atomOf a < atomOf b) ∧ Below w.heap.size w w' := by
  obtain ⟨K, hK⟩ := sorted_ev l.length l [] rfl L (by simpa using hl)
  obtain ⟨ys, h1, h2, h3⟩ := hK (K + 2 * l.length + 2) (by omega)
  have hf : fulcrumref21_Sorted.f (K + 2 * l.length + 2) l = some ys := by
    unfold fulcrumref21_Sorted.f fulcrumref21_set.f
    have := set_ev l hl L.nd l.length 0 (K + 2 * l.length + 2) (by omega) (by omega)
    have h4 : fulcrumref21_set.l0 (K + 2 * l.length + 2) l [] 0 = some l := by simpa using this
    rw [h4]
    simpa using h1
  refine (fulcrumref21_Sorted.calls _ A c l ys w hr hc hf).mono ?_
  rintro e w' ⟨v, rfl, h5, h6⟩
  exact ⟨v, ys, rfl, Kd.own_of_R h5, h2, h3, h6⟩
/-- two lists of the same literals, each by rising atoms, are one -/
theorem atoms_unique {l a b : List Int} (L : Lits l) (ha : a.Perm l) (hb : b.Perm l) (sa : a.Pairwise (fun x y => atomOf x ≤ atomOf y)) (sb : b.Pairwise (fun x y => atomOf x ≤ atomOf y)) : a = b := by
  refine List.Perm.eq_of_pairwise (le := fun x y => atomOf x ≤ atomOf y) ?_ sa sb (ha.trans hb.symm)
  intro x y hx hy h1 h2
  exact L.inj x (ha.mem_iff.1 hx) y (hb.mem_iff.1 hy) (by omega)
end Go.Proofs.Ytjjlcnjhmkackaa.T
