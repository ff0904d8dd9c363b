/-
  lives: First at a small conflict answers what the law asks. No condition.
-/
import Derived.Test.YtjjlcnjhmkackaaTeach
set_option linter.unusedVariables false
set_option linter.unusedSimpArgs false
namespace Go.Proofs.Ytjjlcnjhmkackaa.T
open Go.RowKit Go.Proofs.YtjjlcnjhmkackaaW.PrintWords Go.Proofs.YtjjlcnjhmkackaaW.PrintLast Go.Proofs.YtjjlcnjhmkackaaW.PrintMore
open Go.Proofs.Ytjjlcnjhmkackaa.PA Go.MapII Go.Proofs

def Clv : List (List Int) := [[-1, 2], [-1, 3], [-2, -3]]
def Mlv : List S54 := [⟨1, 1, -1⟩, ⟨2, 1, 0⟩, ⟨3, 1, 1⟩]
theorem first_lv : (loadF Clv Mlv 0 0 (fun _ => none)).bind (fun f => firstF f Clv Mlv 2) = some ([-1], 0, [2, 1, 0]) := by decide +kernel

theorem C_cells {W : World} {b n : Nat} {xs : List Int} (hn : xs.length = n) (hl : n ≤ 9223372036854775807) (h : ∀ j, j < n → W.cell? ⟨b, j, none⟩ = some (.int .i64 (xs.getD j 0))) : Kd.C (Kd.int .i64) W (some ⟨b, 0, none⟩) n xs :=
  reads_C ⟨hn, hl, fun _ => ⟨_, rfl, fun j hj => by rw [add_plain]; exact h j hj⟩⟩

theorem C_lv {W : World} {b : Nat} (c00 : W.cell? ⟨b, 0, none⟩ = some (.int .i64 (-1))) (c01 : W.cell? ⟨b, 1, none⟩ = some (.int .i64 2))
    (c10 : W.cell? ⟨b + 1, 0, none⟩ = some (.int .i64 (-1))) (c11 : W.cell? ⟨b + 1, 1, none⟩ = some (.int .i64 3))
    (c20 : W.cell? ⟨b + 1 + 1, 0, none⟩ = some (.int .i64 (-2))) (c21 : W.cell? ⟨b + 1 + 1, 1, none⟩ = some (.int .i64 (-3)))
    (s0 : W.cell? ⟨b + 1 + 1 + 1, 0, none⟩ = some (.slice (some ⟨b, 0, none⟩) 2 2)) (s1 : W.cell? ⟨b + 1 + 1 + 1, 1, none⟩ = some (.slice (some ⟨b + 1, 0, none⟩) 2 2)) (s2 : W.cell? ⟨b + 1 + 1 + 1, 2, none⟩ = some (.slice (some ⟨b + 1 + 1, 0, none⟩) 2 2)) :
    Kd.C (Kd.slice 3 (Kd.int .i64)) W (some ⟨b + 1 + 1 + 1, 0, none⟩) 3 Clv := by
  have two : ∀ (g : Nat) (x y : Int), W.cell? ⟨g, 0, none⟩ = some (.int .i64 x) → W.cell? ⟨g, 1, none⟩ = some (.int .i64 y) → Kd.C (Kd.int .i64) W (some ⟨g, 0, none⟩) [x, y].length [x, y] := fun g x y h0 h1 =>
    C_cells rfl (by simp) fun j hj => by
      rcases j with _ | _ | j
      · exact h0
      · exact h1
      · simp at hj; omega
  refine ⟨rfl, by omega, fun hp => ⟨_, rfl, fun j cl hj => ?_⟩⟩
  have one : ∀ (g : Nat) (x y : Int), W.cell? ⟨g, 0, none⟩ = some (.int .i64 x) → W.cell? ⟨g, 1, none⟩ = some (.int .i64 y) → W.cell? ⟨b + 1 + 1 + 1, j, none⟩ = some (.slice (some ⟨g, 0, none⟩) 2 2) →
      ∃ c, c.length = (Kd.slice 3 (Kd.int .i64)).sz ∧ (Kd.slice 3 (Kd.int .i64)).K W [x, y] c ∧ ∀ i u, c[i]? = some u → W.cell? ((⟨b + 1 + 1 + 1, 0, none⟩ : Addr).add (j * (Kd.slice 3 (Kd.int .i64)).sz + i)) = some u := fun g x y h0 h1 hs => by
    refine ⟨[.slice (some ⟨g, 0, none⟩) 2 2], rfl, ⟨_, 2, rfl, Nat.le_refl 2, two g x y h0 h1⟩, fun i u hu => ?_⟩
    have hi : i = 0 := by
      cases i with
      | zero => rfl
      | succ i => simp at hu
    subst hi
    have hu2 : u = .slice (some ⟨g, 0, none⟩) 2 2 := by simpa using hu.symm
    subst hu2
    rw [add_plain]
    have : j * (Kd.slice 3 (Kd.int .i64)).sz + 0 = j := by show j * 1 + 0 = j; omega
    rw [this]
    exact hs
  rcases j with _ | _ | _ | j
  · obtain rfl : [-1, 2] = cl := by simpa [Clv] using hj
    exact one _ _ _ c00 c01 s0
  · obtain rfl : [-1, 3] = cl := by simpa [Clv] using hj
    exact one _ _ _ c10 c11 s1
  · obtain rfl : [-2, -3] = cl := by simpa [Clv] using hj
    exact one _ _ _ c20 c21 s2
  · simp [Clv] at hj

theorem M_lv {W : World} {b : Nat} (h : ∀ j, j < 9 → W.cell? ⟨b, j, none⟩ = some (.int .i64 ([1, 1, -1, 2, 1, 0, 3, 1, 1].getD j 0))) : Kd.C k54 W (some ⟨b, 0, none⟩) 3 Mlv := by
  refine ⟨rfl, by omega, fun hp => ⟨_, rfl, fun j m hj => ?_⟩⟩
  have hsz : k54.sz = 3 := rfl
  have one : ∀ m : S54, (W.cell? ⟨b, j * 3, none⟩ = some (.int .i64 m.f0)) → (W.cell? ⟨b, j * 3 + 1, none⟩ = some (.int .i64 m.f1)) → (W.cell? ⟨b, j * 3 + 2, none⟩ = some (.int .i64 m.f2)) →
      ∃ c, c.length = k54.sz ∧ k54.K W m c ∧ ∀ i u, c[i]? = some u → W.cell? ((⟨b, 0, none⟩ : Addr).add (j * k54.sz + i)) = some u := fun m h0 h1 h2 => by
    refine ⟨_, rfl, k54_mk W m, fun i u hu => ?_⟩
    rw [add_plain, hsz]
    rcases i with _ | _ | _ | i
    · simp at hu; subst hu; exact h0
    · simp at hu; subst hu; exact h1
    · simp at hu; subst hu; exact h2
    · simp at hu
  rcases j with _ | _ | _ | j
  · obtain rfl : ⟨1, 1, -1⟩ = m := by simpa [Mlv] using hj
    exact one _ (h 0 (by omega)) (h 1 (by omega)) (h 2 (by omega))
  · obtain rfl : ⟨2, 1, 0⟩ = m := by simpa [Mlv] using hj
    exact one _ (h 3 (by omega)) (h 4 (by omega)) (h 5 (by omega))
  · obtain rfl : ⟨3, 1, 1⟩ = m := by simpa [Mlv] using hj
    exact one _ (h 6 (by omega)) (h 7 (by omega)) (h 8 (by omega))
  · simp [Mlv] at hj

theorem fits_lv : (∀ c ∈ Clv, ∀ x ∈ c, Fits x) ∧ (∀ m ∈ Mlv, Fits m.f0) := by
  constructor
  · intro c hc x hx
    simp only [Clv, List.mem_cons, List.not_mem_nil, or_false] at hc
    rcases hc with rfl | rfl | rfl <;> (simp only [List.mem_cons, List.not_mem_nil, or_false] at hx; rcases hx with rfl | rfl <;> exact fits_iff.2 (by omega))
  · intro m hm
    simp only [Mlv, List.mem_cons, List.not_mem_nil, or_false] at hm
    rcases hm with rfl | rfl | rfl <;> exact fits_iff.2 (by simp)

theorem first_at_lv {W : World} {b g : Nat} (hC : Kd.C (Kd.slice 3 (Kd.int .i64)) W (some ⟨b, 0, none⟩) 3 Clv) (hM : Kd.C k54 W (some ⟨g, 0, none⟩) 3 Mlv) :
    Calls Try.prog 4 #[.slice (some ⟨b, 0, none⟩) 3 3, .slice (some ⟨g, 0, none⟩) 3 3, .int .i64 2] W fun e w' => Below W.heap.size W w' ∧ FirstOut W.heap.size w' (some ([-1], 0, [2, 1, 0])) e :=
  first_calls (C := Clv) (M := Mlv) hC (Nat.le_refl 3) hM fits_lv.1 fits_lv.2 (by decide) (by decide) 2 (fits_iff.2 (by omega)) _ first_lv

theorem same_lit {w : World} {A B : Option Addr} {ca cb n m : Nat} {a b : List Int} (hn : a.length = n) (hm : b.length = m) (ha : Kd.C (Kd.int .i64) w A n a) (hca : n ≤ ca) (hb : Kd.C (Kd.int .i64) w B m b) (hcb : m ≤ cb) (hl : n ≤ 1000) (he : a = b) :
    Calls Try.prog 18 #[.slice A n ca, .slice B m cb] w fun e w' => e = .returned (.bool true) ∧ Drawn0 w w' := by
  subst hn hm
  refine (same_calls ha hca hb hcb (by omega)).mono ?_
  rw [show decide (a = b) = true from decide_eq_true he]
  exact fun _ _ h => h

theorem heap5 (w : World) (o0 o1 o2 o3 o4 : Obj) : ∀ W : World, W = ((((w.alloc o0).alloc o1).alloc o2).alloc o3).alloc o4 → W.heap[w.heap.size]? = some o0 ∧ W.heap[w.heap.size + 1]? = some o1 ∧ W.heap[w.heap.size + 1 + 1]? = some o2 ∧ W.heap[w.heap.size + 1 + 1 + 1]? = some o3 ∧ W.heap[w.heap.size + 1 + 1 + 1 + 1]? = some o4 := by
  rintro W rfl
  have h0 := heap_alloc_new w o0
  have h1 := heap_alloc_new (w.alloc o0) o1
  have h2 := heap_alloc_new ((w.alloc o0).alloc o1) o2
  have h3 := heap_alloc_new (((w.alloc o0).alloc o1).alloc o2) o3
  have h4 := heap_alloc_new ((((w.alloc o0).alloc o1).alloc o2).alloc o3) o4
  simp only [World.size_alloc] at h1 h2 h3 h4
  refine ⟨?_, ?_, ?_, ?_, h4⟩
  · rw [Below.heap_alloc _ _ _ (by simp <;> omega), Below.heap_alloc _ _ _ (by simp <;> omega), Below.heap_alloc _ _ _ (by simp <;> omega), Below.heap_alloc _ _ _ (by simp)]; exact h0
  · rw [Below.heap_alloc _ _ _ (by simp <;> omega), Below.heap_alloc _ _ _ (by simp <;> omega), Below.heap_alloc _ _ _ (by simp)]; exact h1
  · rw [Below.heap_alloc _ _ _ (by simp <;> omega), Below.heap_alloc _ _ _ (by simp)]; exact h2
  · rw [Below.heap_alloc _ _ _ (by simp)]; exact h3

set_option maxRecDepth 100000 in
/-- lives -/
theorem lives_calls (w : World) : Calls Try.prog 7 #[] w fun e w' => e = .returned (.bool true) ∧ Below w.heap.size w w' := by
  go_enter Try.func7, Try.ntmps7
  go_wp2_with fail
  obtain ⟨W, hW⟩ : ∃ W, W = (((((w.alloc (.cells #[.int .i64 (-1), .int .i64 2] 3)).alloc (.cells #[.int .i64 (-1), .int .i64 3] 3)).alloc (.cells #[.int .i64 (-2), .int .i64 (-3)] 3)).alloc
      (.cells #[.slice (some ⟨w.heap.size, 0, none⟩) 2 2, .slice (some ⟨w.heap.size + 1, 0, none⟩) 2 2, .slice (some ⟨w.heap.size + 1 + 1, 0, none⟩) 2 2] 27)).alloc
      (.cells #[.int .i64 1, .int .i64 1, .int .i64 (-1), .int .i64 2, .int .i64 1, .int .i64 0, .int .i64 3, .int .i64 1, .int .i64 1] 54)) := ⟨_, rfl⟩
  obtain ⟨b0, b1, b2, b3, b4⟩ := heap5 _ _ _ _ _ _ W hW
  have hbW : Below w.heap.size w W := by rw [hW]; exact below_alloc (below_alloc (below_alloc (below_alloc (below_alloc (Below.refl _ _) _) _) _) _) _
  rw [← hW]
  clear hW
  refine (first_at_lv (C_lv (b := w.heap.size) ?_ ?_ ?_ ?_ ?_ ?_ ?_ ?_ ?_) (M_lv (fun j hj => ?_))).mono ?_
  iterate 9 (simp [World.cell?, b0, b1, b2, b3])
  · rcases j with _ | _ | _ | _ | _ | _ | _ | _ | _ | j
    all_goals first | (exfalso; omega) | simp [World.cell?, b4]
  clear b0 b1 b2 b3 b4
  rintro e w1 ⟨hb1, hF⟩
  obtain ⟨vC, vN, rfl, h1, h2, _⟩ := hF
  obtain ⟨A1, c1, rfl⟩ := own_slice h1
  obtain ⟨A2, c2, rfl⟩ := own_slice h2
  have HB1 : Aside0 (Below w.heap.size w w1) := ⟨hbW.trans (hb1.mono hbW.size)⟩
  have HO1 := Aside0.mk h1
  have HO2 := Aside0.mk h2
  have hz1 := HB1.out.size
  clear hb1 h1 h2 hbW
  go_wp2_with fail
  obtain ⟨W2, hW2⟩ : ∃ W2, W2 = (w1.alloc (.cells #[.slice A1 1 c1, .int .i64 0, .slice A2 3 c2] 29)).alloc (.cells #[.int .i64 (-1)] 3) := ⟨_, rfl⟩
  have hb2 : Below w1.heap.size w1 W2 := by rw [hW2]; exact below_alloc (below_alloc (Below.refl _ _) _) _
  have p0 : W2.heap[w1.heap.size]? = some (.cells #[.slice A1 1 c1, .int .i64 0, .slice A2 3 c2] 29 (0, 0)) := by
    rw [hW2, Below.heap_alloc _ _ _ (by simp)]; exact heap_alloc_new _ _
  have p1 : W2.heap[w1.heap.size + 1]? = some (.cells #[.int .i64 (-1)] 3 (0, 0)) := by
    have h := heap_alloc_new (w1.alloc (.cells #[.slice A1 1 c1, .int .i64 0, .slice A2 3 c2] 29)) (.cells #[.int .i64 (-1)] 3)
    rw [hW2]; simpa using h
  rw [← hW2]
  clear hW2
  obtain ⟨q0, q1, q2, _⟩ := cells3 p0
  have HB2 := Aside0.mk hb2
  refine (same_lit (n := 1) (m := 1) (a := [-1]) (b := [-1]) rfl rfl (reads_C ((own_reads' HO1.out).below hb2)) (own_cap HO1.out) (C_cells rfl (by omega) (fun j hj => ?_)) (by omega) (by omega) rfl).mono ?_
  · obtain rfl : j = 0 := by omega
    simp [World.cell?, p1]
  clear hb2 p0 p1
  rintro e w3 ⟨rfl, hd⟩
  obtain ⟨nd, rfl⟩ := hd.out
  clear hd
  go_wp2_with fail
  obtain ⟨W3, hW3⟩ : ∃ W3, W3 = (W2.drewN nd).alloc (.cells #[.int .i64 2, .int .i64 1, .int .i64 0] 3) := ⟨_, rfl⟩
  have hb3 : Below W2.heap.size W2 W3 := by rw [hW3]; exact below_alloc (pw_below_drewN (Below.refl _ _) nd) _
  have p1 : W3.heap[W2.heap.size]? = some (.cells #[.int .i64 2, .int .i64 1, .int .i64 0] 3 (0, 0)) := by rw [hW3]; exact heap_alloc_new (W2.drewN nd) _
  rw [← hW3]
  clear hW3
  have HB3 : Aside0 (Below w1.heap.size w1 W3) := ⟨HB2.out.trans (hb3.mono HB2.out.size)⟩
  refine (same_lit (n := 3) (m := 3) (a := [2, 1, 0]) (b := [2, 1, 0]) rfl rfl (reads_C ((own_reads' HO2.out).below HB3.out)) (own_cap HO2.out) (C_cells rfl (by omega) (fun j hj => ?_)) (by omega) (by omega) rfl).mono ?_
  · rcases j with _ | _ | _ | j
    all_goals first | (exfalso; omega) | simp [World.cell?, p1]
  clear hb3 p1
  rintro e w3 ⟨rfl, hd⟩
  obtain ⟨nd2, rfl⟩ := hd.out
  clear hd
  go_wp2
  go_ret
  exact ⟨rfl, pw_below_drewN (HB1.out.trans (HB3.out.mono HB1.out.size)) nd2⟩
end Go.Proofs.Ytjjlcnjhmkackaa.T
