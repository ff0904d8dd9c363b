/-
  slices.SortFunc over a row that the call owns, elements of one cell, under a comparison that is told in every world that keeps all but that row. The comparison is a strict weak order.
-/
import Derived.Test.YtjjlcnjhmkackaaShelf
import Derived.Test.YtjjlcnjhmkackaaShelfB
import Derived.Sort.OwnSorted
import Derived.WalkKit
import Derived.Lib.Hide
set_option linter.unusedVariables false
set_option linter.unusedSimpArgs false
namespace Go.Proofs.Ytjjlcnjhmkackaa.Srt
open Go.Shelf Go.RowKit Go.Lib Go.Sort Go.Proofs

variable {α : Type} [Inhabited α]
theorem holds_of {w : World} {g : Nat} {cur : Array Value} {e : TypeId} {enc : α → Value} {ss : List α} (hb : w.heap[g]? = some (.cells cur e (0, 0))) (ht : cur.toList.take ss.length = ss.map enc) : Holds enc w g 0 ss.toArray := by
  intro j hj
  have hj' : j < ss.length := by simpa using hj
  refine ⟨?_, by simp [World.frozen?, hb]⟩
  have h1 : (cur.toList.take ss.length)[j]? = (ss.map enc)[j]? := by rw [ht]
  rw [List.getElem?_take_of_lt hj'] at h1
  simp only [World.cell?, hb, Nat.zero_add]
  simp only [Option.isSome_none, Bool.false_eq_true, if_false]
  rw [← Array.getElem?_toList, h1]
  simp [hj']
theorem heap_at {w : World} {g n : Nat} {os : Array Obj} {cur : Array Value} {e : TypeId} {fr : Nat × Nat} (enc : α → Value) (d : Array α) (hb : w.heap[g]? = some (.cells cur e fr)) :
    (sortWorld enc w g 0 n d os).heap[g]? = some (.cells (putCells enc 0 d cur) e fr) := by
  have hg : g < w.heap.size := (Array.getElem?_eq_some_iff.1 hb).1
  unfold sortWorld
  rw [heap_grow_old _ _ (by simpa using hg)]
  simp [putRow, mapBlock, Sort.ahead, Array.getElem?_modify, hb, onCells]
theorem heap_else {w : World} {g n : Nat} {os : Array Obj} (enc : α → Value) (d : Array α) (k : Nat) (hk : k < w.heap.size) (hne : g ≠ k) : (sortWorld enc w g 0 n d os).heap[k]? = w.heap[k]? := by
  unfold sortWorld
  rw [heap_grow_old _ _ (by simpa using hk)]
  simp [putRow, mapBlock, Sort.ahead, Array.getElem?_modify, hne]
theorem grownBy_ {w : World} {g n : Nat} {os : Array Obj} (enc : α → Value) (d : Array α) : w.grownBy (sortWorld enc w g 0 n d os) (some g) := by
  refine ⟨rfl, rfl, rfl, by simp [sortWorld], fun k hk hne => heap_else enc d k hk (fun e => hne (by rw [e]))⟩
theorem take_put (enc : α → Value) (cur : Array Value) (ts : List α) (h : ts.length ≤ cur.size) : (putCells enc 0 ts.toArray cur).toList.take ts.length = ts.map enc := by
  apply List.ext_getElem?
  intro j
  by_cases hj : j < ts.length
  · rw [List.getElem?_take_of_lt hj, Array.getElem?_toList]
    simp [putCells, hj, show j < cur.size by omega]
  · rw [List.getElem?_take_eq_none (by omega), List.getElem?_eq_none (by simp; omega)]

/-- what a comparison must pay -/
def Cmp (enc : α → Value) (cf : α → α → Int) (g : Nat) (cb : Array Value) (w : World) (v : Value) : Prop :=
  ∀ W : World, (∀ k, k < w.heap.size → v.ownBlock ≠ some k → W.heap[k]? = w.heap[k]?) → ∀ x y, Calls Try.prog g (#[enc x, enc y] ++ cb) W fun e w' => e = .returned (.int .i64 (cf x y)) ∧ ∃ q, w' = W.drewN q

theorem lays_of {enc : α → Value} {cf : α → α → Int} {g : Nat} {cb : Array Value} {w : World} {b n cap size : Nat} (h : Cmp enc cf g cb w (.slice (some ⟨b, 0, none⟩) n cap)) : CmpLays1 Try.prog g cb enc cf b 0 size w :=
  CmpReads.lays fun m os dk hs x y => h _ (fun k hk hne => heap_else enc dk k hk (fun e => hne (by subst e; rfl))) x y

/-- what is left behind the sort -/
def Done (enc : α → Value) (cf : α → α → Int) (base : Nat) (e : TypeId) (v : Value) (xs : List α) (w w' : World) : Prop :=
  ∃ ys : List α, ys.Perm xs ∧ ys.Pairwise (fun a b => ltOf cf b a = false) ∧ w'.ownsRow base e 1 v ys.length (ys.map enc) ∧ w.grownBy w' v.ownBlock

theorem done_of {enc : α → Value} {cf : α → α → Int} {base g cap n : Nat} {e : TypeId} {xs : List α} {w : World} {cur : Array Value} {d' : Array α} {os : Array Obj} (hbase : base ≤ g) (hb : w.heap[g]? = some (.cells cur e (0, 0)))
    (h1 : xs.length ≤ cap) (h2 : cap ≤ maxLen) (h3 : cur.size = cap * 1) (hp : PermIn 0 xs.toArray.size xs.toArray d') (hs : SortedIn (ltOf cf) 0 xs.toArray.size d') :
    Done enc cf base e (.slice (some ⟨g, 0, none⟩) xs.length cap) xs w (sortWorld enc w g 0 n d' os) := by
  obtain ⟨p1, _, p2⟩ := hp
  have hsz : d'.size = xs.length := by simpa using p1
  have e1 : (d'.extract 0 xs.toArray.size) = d' := by simp [← hsz]
  have e2 : (xs.toArray.extract 0 xs.toArray.size) = xs.toArray := by simp
  rw [e1, e2] at p2
  have hl : d'.toList.length = xs.length := by simpa using hsz
  refine ⟨d'.toList, p2, ?_, ?_, grownBy_ enc d'⟩
  · rw [List.pairwise_iff_getElem]
    intro i j hi hj hij
    have := hs i j (Nat.zero_le _) hij (by simp; omega)
    rw [getElem!_pos d' j (by simpa using hj), getElem!_pos d' i (by simpa using hi)] at this
    simpa using this
  · have hh := heap_at (n := n) (os := os) enc d' hb
    refine ⟨by simp, .inr ⟨g, cap, _, by rw [hl], hbase, hh, by omega, h2, by simp [putCells, h3], ?_⟩⟩
    rw [Nat.mul_one]
    have := take_put enc cur d'.toList (by omega)
    simpa using this

theorem sort29 (enc : α → Value) (h1 : OneCell enc) (cf : α → α → Int) (hO : SWO (ltOf cf)) (g : Nat) (cb : Array Value) (base : Nat) (e : TypeId) (v : Value) (xs : List α) (w : World) (hown : w.ownsRow base e 1 v xs.length (xs.map enc))
    (eg : ∀ args w, (callFunc g args).run Try.prog w = .ok (.enter g args) w) (hlen : xs.length < 4611686018427387904) (hcmp : Cmp enc cf g cb w v) :
    Calls Try.prog 29 #[v, .func (.func g) #[] cb] w fun en w' => en = .returned (.tuple #[]) ∧ Done enc cf base e v xs w w' := by
  rcases hown.2 with ⟨rfl, h0⟩ | ⟨gb, cap, cur, rfl, hbase, hb, h1', h2, h3, h4⟩
  · have hx : xs = [] := List.eq_nil_of_length_eq_zero h0
    subst hx
    refine (AnyF.slices_SortFunc_none Try.laysSlF06_f29 none 0 _ w).mono ?_
    rintro en w' ⟨rfl, rfl⟩
    exact ⟨rfl, [], List.Perm.refl _, List.Pairwise.nil, hown, World.grownBy.refl _ _⟩
  · have hH : Holds enc w gb 0 xs.toArray := holds_of hb (by simpa using h4)
    have hg : gb < w.heap.size := (Array.getElem?_eq_some_iff.1 hb).1
    have hc := Try.slices_SortFunc enc h1 cf hO g cb gb 0 cap xs.toArray w eg (lays_of hcmp) hH hg (by simpa using hlen)
    refine (show Calls Try.prog 29 #[.slice (some ⟨gb, 0, none⟩) xs.length cap, .func (.func g) #[] cb] w _ from hc).mono ?_
    rintro en w' ⟨rfl, d', n, os, hp, hs, rfl⟩
    exact ⟨rfl, done_of hbase hb h1' h2 h3 hp hs⟩

theorem sort32 (enc : α → Value) (h1 : OneCell enc) (cf : α → α → Int) (hO : SWO (ltOf cf)) (g : Nat) (cb : Array Value) (base : Nat) (e : TypeId) (v : Value) (xs : List α) (w : World) (hown : w.ownsRow base e 1 v xs.length (xs.map enc))
    (eg : ∀ args w, (callFunc g args).run Try.prog w = .ok (.enter g args) w) (hlen : xs.length < 4611686018427387904) (hcmp : Cmp enc cf g cb w v) :
    Calls Try.prog 32 #[v, .func (.func g) #[] cb] w fun en w' => en = .returned (.tuple #[]) ∧ Done enc cf base e v xs w w' := by
  rcases hown.2 with ⟨rfl, h0⟩ | ⟨gb, cap, cur, rfl, hbase, hb, h1', h2, h3, h4⟩
  · have hx : xs = [] := List.eq_nil_of_length_eq_zero h0
    subst hx
    have hp := fun lim W => AnyF.pdqsortCmpFunc_none Try.laysSlF014_f37 none 0 lim (.func (.func g) #[] cb) W
    have hl := fun W => Try.bits_Len 0 W (by omega) (by omega)
    have HO := Lib.hid hown
    clear hown hcmp h0
    go_enter Try.func32, Try.ntmps32
    go_wp2_with (first | (go_at_call 38; refine (hl _).mono ?_; rintro e w' ⟨rfl, rfl⟩) | (go_at_call 37; refine (hp _ _).mono ?_; rintro e w' ⟨rfl, rfl⟩))
    go_end0
    exact ⟨rfl, [], List.Perm.refl _, List.Pairwise.nil, HO.out, World.grownBy.refl _ _⟩
  · have hH : Holds enc w gb 0 xs.toArray := holds_of hb (by simpa using h4)
    have hg : gb < w.heap.size := (Array.getElem?_eq_some_iff.1 hb).1
    have hsz : xs.toArray.size < 4611686018427387904 := by simpa using hlen
    have hlim : Lib.bitLen xs.toArray.size < 4611686018427387904 := Nat.lt_of_le_of_lt (Lib.bitLen_le xs.toArray.size 62 (by omega) (by omega)) (by omega)
    have hp := Try.pdqsortCmpFunc_all enc cf g cb hO gb 0 cap xs.toArray w eg (lays_of hcmp) ⟨h1, hH, hg⟩ (xs.toArray.size + 1) 0 xs.toArray.size (Lib.bitLen xs.toArray.size) xs.toArray w (by omega) rfl (SW.start hH) (Nat.zero_le _) (Nat.le_refl _) hsz hlim (Or.inl rfl)
    have hps := pdq_sorts (ltOf cf) hO xs.toArray 0 xs.toArray.size (Lib.bitLen xs.toArray.size) true true (Nat.zero_le _) (Nat.le_refl _) (Or.inl rfl)
    have hfin : ∀ n os, Done enc cf base e (.slice (some ⟨gb, 0, none⟩) xs.length cap) xs w (sortWorld enc w gb 0 n (pdq (ltOf cf) xs.toArray 0 xs.toArray.size (Lib.bitLen xs.toArray.size) true true) os) := fun n os => done_of hbase hb h1' h2 h3 hps.1 hps.2
    have hl : Calls Try.prog 38 #[.int .u64 (xs.length : Int)] w fun e w' => e = .returned (.int .i64 (Lib.bitLen xs.toArray.size : Nat)) ∧ w' = w := by
      have h := Try.bits_Len (xs.length : Int) w (by omega) (by omega)
      rw [Int.toNat_natCast] at h
      simpa using h
    have wr : IntKind.u64.wrap (xs.length : Int) = xs.length := by simp [IntKind.wrap, IntKind.bits, IntKind.signed]; omega
    replace hp : Calls Try.prog 37 #[.slice (some ⟨gb, 0, none⟩) xs.length cap, .int .i64 0, .int .i64 (xs.length : Int), .int .i64 (Lib.bitLen xs.toArray.size : Nat), .func (.func g) #[] cb] w _ := hp
    have HF := Lib.hid hfin
    clear hown hcmp hfin hps hH h1 hb h4 h3 hO hlim hsz
    generalize Lib.bitLen xs.toArray.size = bl at hp hl HF
    go_enter Try.func32, Try.ntmps32
    go_wp2_with (first | (go_at_call 38; refine hl.mono ?_; rintro e w' ⟨rfl, rfl⟩) | (go_at_call 37; refine hp.mono ?_; rintro e w' ⟨rfl, n, os, rfl⟩))
    go_end0
    exact ⟨rfl, HF.out n os⟩
end Go.Proofs.Ytjjlcnjhmkackaa.Srt
