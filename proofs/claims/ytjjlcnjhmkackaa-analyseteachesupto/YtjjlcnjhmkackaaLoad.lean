/-
  What load of analyse answers. No condition but that clauses and marks lie as told.
-/
import Derived.Test.YtjjlcnjhmkackaaTold
import Derived.Carry
set_option linter.unusedVariables false
set_option linter.unusedSimpArgs false
namespace Go.Proofs.Ytjjlcnjhmkackaa.T
open Go.RowKit Go.Proofs.YtjjlcnjhmkackaaW.PrintWords Go.Proofs.YtjjlcnjhmkackaaW.PrintLast Go.Proofs.YtjjlcnjhmkackaaW.PrintMore
open Go.Proofs.Ytjjlcnjhmkackaa.PA Go.MapII Go.Proofs

def loadF (C : List (List Int)) : List S54 → Int → Int → (Int → Option Int) → Option (Int → Option Int)
  | [], _, _, f => some f
  | m :: r, i, lev, f =>
    if atomOf m.f0 = 0 then none
    else if knownB f m.f0 = true then none
    else if m.f2 = -1 then (if m.f1 = lev + 1 then loadF C r (i + 1) (lev + 1) (upd f m.f0 i) else none)
    else if m.f2 < 0 then none
    else if C.length ≤ m.f2 then none
    else if forcesB f m.f0 false (rd_L1 C m.f2) = true then (if m.f1 = lev then loadF C r (i + 1) lev (upd f m.f0 i) else none)
    else none
theorem loadF_cons (C : List (List Int)) (m : S54) (r : List S54) (i lev : Int) (f : Int → Option Int) : loadF C (m :: r) i lev f = (if atomOf m.f0 = 0 then none
    else if knownB f m.f0 = true then none
    else if m.f2 = -1 then (if m.f1 = lev + 1 then loadF C r (i + 1) (lev + 1) (upd f m.f0 i) else none)
    else if m.f2 < 0 then none
    else if C.length ≤ m.f2 then none
    else if forcesB f m.f0 false (rd_L1 C m.f2) = true then (if m.f1 = lev then loadF C r (i + 1) lev (upd f m.f0 i) else none)
    else none) := rfl
theorem drop_T54 {M : List S54} {k : Nat} (h : k < M.length) : M.drop k = rd_T54 M (k : Int) :: M.drop (k + 1) := by
  rw [List.drop_eq_getElem_cons h]
  simp [rd_T54, List.getD_eq_getElem?_getD, List.getElem?_eq_getElem h]
theorem rd_T54_mem {M : List S54} {k : Nat} (h : k < M.length) : rd_T54 M (k : Int) ∈ M := by
  have : rd_T54 M (k : Int) = M[k] := by simp [rd_T54, List.getD_eq_getElem?_getD, List.getElem?_eq_getElem h]
  rw [this]; exact List.getElem_mem h

def LoadOut (B : Nat) (w' : World) (Ac Am : Option Addr) (cc cm : Nat) (C : List (List Int)) (M : List S54) : Option (Int → Option Int) → Ending → Prop
  | none, e => e = .returned (.tuple #[.pointer none, .bool false])
  | some f, e => ∃ tb pb, e = .returned (.tuple #[.pointer (some ⟨tb, 0, none⟩), .bool true]) ∧ B ≤ tb ∧ B ≤ pb ∧ w'.cell? ⟨tb, 0, none⟩ = some (.slice Ac C.length cc) ∧ w'.cell? ⟨tb, 1, none⟩ = some (.slice Am M.length cm) ∧ w'.cell? ⟨tb, 2, none⟩ = some (.map (some pb)) ∧ IM w' pb M.length f
theorem LoadOut.bad {B : Nat} {w' : World} {Ac Am : Option Addr} {cc cm : Nat} {C : List (List Int)} {M : List S54} {L : Option (Int → Option Int)} (h : none = L) : LoadOut B w' Ac Am cc cm C M L (.returned (.tuple #[.pointer none, .bool false])) := by subst h; rfl

set_option maxRecDepth 100000 in
set_option maxHeartbeats 8000000 in
/-- load -/
theorem load_calls {w : World} {Ac Am : Option Addr} {cc cm : Nat} {C : List (List Int)} {M : List S54} (hC : Kd.C (Kd.slice 3 (Kd.int .i64)) w Ac C.length C) (hcc : C.length ≤ cc) (hMr : Kd.C k54 w Am M.length M) (hfC : ∀ c ∈ C, ∀ x ∈ c, Fits x) (hfM : ∀ m ∈ M, Fits m.f0) (hM : M.length ≤ 1099511627776) :
    Calls Try.prog 11 #[.slice Ac C.length cc, .slice Am M.length cm] w fun e w' => Below w.heap.size w w' ∧ LoadOut w.heap.size w' Ac Am cc cm C M (loadF C M 0 0 (fun _ => none)) e := by
  have HCR := Aside0.mk hC
  have HMR := Aside0.mk hMr
  have HFC := Aside0.mk hfC
  have HFM := Aside0.mk hfM
  have hlenC : C.length ≤ 9223372036854775807 := hC.2.1
  clear hC hMr hfC hfM
  obtain ⟨L, hL⟩ : ∃ L, L = loadF C M 0 0 (fun _ => none) := ⟨_, rfl⟩
  rw [← hL]
  have HL0 := Aside0.mk hL.symm
  clear hL
  have hmk : ∀ W, (Instr.makeMap 44 none).run Try.prog W = .ok (.map (some W.heap.size)) (W.alloc (.map #[] 0)) := fun W => run_makeMap 44 W
  go_enter Try.func11, Try.ntmps11
  go_wp2
  clear hmk
  have HIM : Aside0 (IM ((w.alloc (.map #[] 0)).alloc (.cells #[.slice Ac C.length cc, .slice Am M.length cm, .map (some w.heap.size)] 64)) w.heap.size 0 (fun _ => none)) := ⟨MapII.alloc (MapII.made w Try.prog 3 3) _⟩
  obtain ⟨w0, hw0⟩ : ∃ w0, w0 = (w.alloc (.map #[] 0)).alloc (.cells #[.slice Ac C.length cc, .slice Am M.length cm, .map (some w.heap.size)] 64) := ⟨_, rfl⟩
  have hB0 : Below w.heap.size w w0 := by rw [hw0]; exact below_alloc (below_alloc (Below.refl _ _) _) _
  have t0 : w0.cell? ⟨w.heap.size + 1, 0, none⟩ = some (.slice Ac C.length cc) := by rw [hw0]; simp
  have t1 : w0.cell? ⟨w.heap.size + 1, 1, none⟩ = some (.slice Am M.length cm) := by rw [hw0]; simp
  have t2 : w0.cell? ⟨w.heap.size + 1, 2, none⟩ = some (.map (some w.heap.size)) := by rw [hw0]; simp
  have hz0 : w0.heap.size = w.heap.size + 2 := by rw [hw0]; simp
  rw [← hw0] at HIM ⊢
  have HB0 := Aside0.mk hB0
  have T0 := Aside0.mk t0
  have T1 := Aside0.mk t1
  have T2 := Aside0.mk t2
  clear hw0 hB0 t0 t1 t2
  go_loopw [7, 17] (fun lv i wr => ∃ (k : Nat) (lev : Int) (f : Int → Option Int), k ≤ M.length ∧ i = .int .i64 k ∧ lv = .int .i64 lev ∧ 0 ≤ lev ∧ lev ≤ k ∧ Aside0 (loadF C (M.drop k) k lev f = L) ∧ Aside0 (IM wr w.heap.size k f) ∧ Aside0 (Below w.heap.size w wr) ∧ Aside0 (wr.heap[w.heap.size + 1]? = w0.heap[w.heap.size + 1]?) ∧ w0.heap.size ≤ wr.heap.size) (fun _ i _ => M.length - (intOf i).toNat)
  case atStart => exact ⟨0, 0, _, Nat.zero_le _, rfl, rfl, Int.le_refl _, Int.le_refl _, HL0, HIM, HB0, ⟨rfl⟩, Nat.le_refl _⟩
  case round =>
    obtain ⟨k, lev, f, hk, rfl, rfl, hv0, hv1, HE, HIMk, HBk, HTk, hzk⟩ := hrel
    have t2 := cell_same T2.out HTk.out
    by_cases hlt : k < M.length
    · obtain ⟨ad, e0, m0, m1, m2⟩ := at_T54 (Kd.C_below HMR.out HBk.out) (k : Int) (by omega) (by omega)
      subst e0
      obtain ⟨m, hme⟩ : ∃ m, m = rd_T54 M (k : Int) := ⟨_, rfl⟩
      have hfm : Fits m.f0 := by rw [hme]; exact HFM.out _ (rd_T54_mem hlt)
      have HE1 : loadF C (m :: M.drop (k + 1)) k lev f = L := by rw [hme, ← drop_T54 hlt]; exact HE.out
      rw [← hme] at m0 m1 m2
      rw [Int.toNat_natCast] at m0 m1 m2
      clear hme HE
      rw [loadF_cons] at HE1
      obtain ⟨wm, hwm⟩ : ∃ wm, wm = wr.alloc (.cells #[.int .i64 m.f0, .int .i64 m.f1, .int .i64 m.f2] 54) := ⟨_, rfl⟩
      have HWM := Aside0.mk hwm
      have hBm : Below wr.heap.size wr wm := by rw [hwm]; exact below_alloc (Below.refl _ _) _
      have n0 : wm.cell? ⟨wr.heap.size, 0, none⟩ = some (.int .i64 m.f0) := by rw [hwm]; simp
      have n1 : wm.cell? ⟨wr.heap.size, 1, none⟩ = some (.int .i64 m.f1) := by rw [hwm]; simp
      have n2 : wm.cell? ⟨wr.heap.size, 2, none⟩ = some (.int .i64 m.f2) := by rw [hwm]; simp
      have hzm : wm.heap.size = wr.heap.size + 1 := by rw [hwm]; simp
      have HBM : Aside0 (Below w.heap.size w wm) := ⟨HBk.out.trans (hBm.mono (by omega))⟩
      have HIMM : Aside0 (IM wm w.heap.size k f) := ⟨MapII.of_block HIMk.out (hBm.block _ (MapII.lt HIMk.out))⟩
      have tm2 := pw_cell_below hBm t2
      have HTM : Aside0 (wm.heap[w.heap.size + 1]? = w0.heap[w.heap.size + 1]?) := ⟨(hBm.block _ (World.block_lt_of_cell? _ _ t2)).trans HTk.out⟩
      clear hwm hBm
      by_cases ca : atomOf m.f0 = 0
      · rw [if_pos ca] at HE1
        have cab : (atomOf m.f0 == 0) = true := by simp [ca]
        have HN := Aside0.mk HE1
        clear ca HE1
        go_wp2_with (first | (go_at_call 25; rw [← HWM.out]; refine (atom_calls m.f0 _).mono ?_; rintro e w' ⟨rfl, hd⟩; obtain ⟨nd, rfl⟩ := hd.out; clear hd))
        refine bodyPost_ret (v := .tuple #[.pointer none, .bool false]) ?_ rfl ⟨pw_below_drewN HBM.out nd, LoadOut.bad HN.out⟩
        simp [results, Try.results11, go_sem]
      · rw [if_neg ca] at HE1
        have cab : (atomOf m.f0 == 0) = false := by simp [ca]
        clear ca
        by_cases cb : knownB f m.f0 = true
        · rw [if_pos cb] at HE1
          have HN := Aside0.mk HE1
          have CB := Aside0.mk cb
          clear cb HE1
          go_wp2_with (first
            | (go_at_call 25; rw [← HWM.out]; refine (atom_calls m.f0 _).mono ?_; rintro e w' ⟨rfl, hd⟩; obtain ⟨nd, rfl⟩ := hd.out; clear hd)
            | (go_at_call 26; refine (known_calls (w.heap.size + 1) w.heap.size k f m.f0 (wm.drewN nd) hfm tm2 (MapII.drewN HIMM.out nd)).mono ?_; rintro e w' ⟨rfl, hd⟩; obtain ⟨nd2, rfl⟩ := hd.out; clear hd; rw [CB.out]))
          refine bodyPost_ret (v := .tuple #[.pointer none, .bool false]) ?_ rfl ⟨⟨HBM.out.os, HBM.out.tape, HBM.out.output, HBM.out.size, HBM.out.block⟩, LoadOut.bad HN.out⟩
          simp [results, Try.results11, go_sem]
        · rw [if_neg cb] at HE1
          have CB : Aside0 (knownB f m.f0 = false) := ⟨by simpa using cb⟩
          clear cb
          by_cases cd : m.f2 = -1
          · rw [if_pos cd] at HE1
            have cdb : (m.f2 == -1) = true := by simp [cd]
            have hneg : ¬ (m.f2 < 0 ∧ False) := by simp
            have hw1 : IntKind.i64.wrap (lev + 1) = lev + 1 := by rw [wrap_eq]; unfold wrap64; omega
            by_cases cl : m.f1 = lev + 1
            · rw [if_pos cl] at HE1
              have clb : (m.f1 != lev + 1) = false := by simp [cl]
              have HN := Aside0.mk HE1
              clear cl HE1 cd
              go_wp2_with (first
                | (go_at_call 25; rw [← HWM.out]; refine (atom_calls m.f0 _).mono ?_; rintro e w' ⟨rfl, hd⟩; obtain ⟨nd, rfl⟩ := hd.out; clear hd)
                | (go_at_call 26; refine (known_calls (w.heap.size + 1) w.heap.size k f m.f0 (wm.drewN nd) hfm tm2 (MapII.drewN HIMM.out nd)).mono ?_; rintro e w' ⟨rfl, hd⟩; obtain ⟨nd2, rfl⟩ := hd.out; clear hd; rw [CB.out]))
              refine Reg.still_tail 7 (by kernel_rfl) (by kernel_rfl) (fun nd3 => ?_)
              simp only [List.take_succ_cons, List.take_zero, List.drop_succ_cons, List.drop_zero]
              repeat still_step
              refine wpStill_nil ?_
              go_wp2_with (at_mapUpdate; refine wp_update _ rfl (.tmp 68) (.tmp 70) (.tmp 71) 44 rfl 3 3 Try.underlying44 Try.underlying3 Try.underlying3 (w.heap.size) k f rfl (MapII.of_block HIMM.out rfl) (by unfold maxLen; omega) m.f0 k rfl rfl hfm (fits_iff.2 (by omega)) ?_; intro w3 ho3 hg3 hs3; have HO3 := Aside0.mk ho3; have HG3 : Aside0 (wm.grownBy w3 (some w.heap.size)) := ⟨⟨hg3.os, hg3.tape, hg3.output, hg3.size, hg3.block⟩⟩; have HS3 := Aside0.mk hs3; clear ho3 hg3 hs3)
              have hz3 : w3.heap.size = wm.heap.size := HS3.out
              go_roundw
              case rel => exact ⟨k + 1, _, _, by omega, by go_num, rfl, by omega, by omega, by rw [Int.natCast_add]; exact HN, ⟨HO3.out⟩, ⟨HBM.out.grown HG3.out (by show w.heap.size ≤ wm.heap.size; omega) (fun k hk => by cases hk; omega)⟩, ⟨(HG3.out.block (w.heap.size + 1) (by show w.heap.size + 1 < wm.heap.size; omega) (by simp)).trans HTM.out⟩, by omega⟩
              case measure => simp [intOf]; omega
            · rw [if_neg cl] at HE1
              have clb : (m.f1 != lev + 1) = true := by simp [cl]
              have HN := Aside0.mk HE1
              clear cl HE1 cd
              go_wp2_with (first
                | (go_at_call 25; rw [← HWM.out]; refine (atom_calls m.f0 _).mono ?_; rintro e w' ⟨rfl, hd⟩; obtain ⟨nd, rfl⟩ := hd.out; clear hd)
                | (go_at_call 26; refine (known_calls (w.heap.size + 1) w.heap.size k f m.f0 (wm.drewN nd) hfm tm2 (MapII.drewN HIMM.out nd)).mono ?_; rintro e w' ⟨rfl, hd⟩; obtain ⟨nd2, rfl⟩ := hd.out; clear hd; rw [CB.out]))
              refine bodyPost_ret (v := .tuple #[.pointer none, .bool false]) ?_ rfl ⟨⟨HBM.out.os, HBM.out.tape, HBM.out.output, HBM.out.size, HBM.out.block⟩, LoadOut.bad HN.out⟩
              simp [results, Try.results11, go_sem]
          · rw [if_neg cd] at HE1
            have cdb : (m.f2 == -1) = false := by simp [cd]
            by_cases cn : m.f2 < 0
            · rw [if_pos cn] at HE1
              have HN := Aside0.mk HE1
              clear HE1 cd
              have cnb : decide (m.f2 < 0) = true := by simp [cn]
              go_wp2_with (first
                | (go_at_call 25; rw [← HWM.out]; refine (atom_calls m.f0 _).mono ?_; rintro e w' ⟨rfl, hd⟩; obtain ⟨nd, rfl⟩ := hd.out; clear hd)
                | (go_at_call 26; refine (known_calls (w.heap.size + 1) w.heap.size k f m.f0 (wm.drewN nd) hfm tm2 (MapII.drewN HIMM.out nd)).mono ?_; rintro e w' ⟨rfl, hd⟩; obtain ⟨nd2, rfl⟩ := hd.out; clear hd; rw [CB.out]))
              refine Reg.by_order [(0, false), (1, false), (2, false), (3, false), (4, false), (5, false), (6, false), (7, false), (8, false), (9, false), (10, false), (11, false), (12, false), (13, false), (14, false), (15, false), (16, false), (17, false), (18, false), (19, true), (20, false), (21, false), (22, false)] [] (fun W => W.cell? ⟨wr.heap.size, 0, none⟩ = some (.int .i64 m.f0) ∧ W.cell? ⟨wr.heap.size, 2, none⟩ = some (.int .i64 m.f2)) (by kernel_rfl) (by kernel_rfl) (fun _ _ d _ _ h => by cases d <;> exact h) ⟨n0, n2⟩ ?_
              iterate 2
                refine Reg.held_at (v := ?_) rfl rfl rfl ?_ ?_
                rotate_left
                · intro W hW
                  obtain ⟨h1, h2⟩ := hW
                  go_simp
                  first | done | rfl
                go_frame
              refine Reg.held_at (v := .bool true) rfl rfl rfl ?_ ?_
              · intro W hW
                obtain ⟨h1, h2⟩ := hW
                go_simp
                first | done | (simp only [cnb]; done) | rfl
              go_frame
              refine Reg.held_at (v := ?_) rfl rfl rfl ?_ ?_
              rotate_left
              · intro W hW
                obtain ⟨h1, h2⟩ := hW
                go_simp
                first | done | rfl
              go_frame
              iterate 5
                refine Reg.off_at rfl rfl rfl ?_
                go_frame
              iterate 2
                refine Reg.held_at (v := ?_) rfl rfl rfl ?_ ?_
                rotate_left
                · intro W hW
                  obtain ⟨h1, h2⟩ := hW
                  go_simp
                  first | done | rfl
                go_frame
              iterate 8
                refine Reg.off_at rfl rfl rfl ?_
                go_frame
              refine Reg.skip_on rfl rfl rfl ⟨n0, n2⟩ ?_
              go_frame
              refine Reg.off_at rfl rfl rfl ?_
              go_frame
              iterate 2
                refine Reg.held_at (v := ?_) rfl rfl rfl ?_ ?_
                rotate_left
                · intro W hW
                  obtain ⟨h1, h2⟩ := hW
                  go_simp
                  first | done | rfl
                go_frame
              refine Reg.nil_ ?_
              go_wp2
              refine bodyPost_ret (v := .tuple #[.pointer none, .bool false]) ?_ rfl ⟨⟨HBM.out.os, HBM.out.tape, HBM.out.output, HBM.out.size, HBM.out.block⟩, LoadOut.bad HN.out⟩
              simp [results, Try.results11, go_sem]
            · rw [if_neg cn] at HE1
              have cnb : decide (m.f2 < 0) = false := by simp [cn]
              by_cases cg : C.length ≤ m.f2
              · rw [if_pos cg] at HE1
                have cgb : decide (m.f2 ≥ (C.length : Int)) = true := by simpa using cg
                have HN := Aside0.mk HE1
                clear HE1 cd
                go_wp2_with (first
                  | (go_at_call 25; rw [← HWM.out]; refine (atom_calls m.f0 _).mono ?_; rintro e w' ⟨rfl, hd⟩; obtain ⟨nd, rfl⟩ := hd.out; clear hd)
                  | (go_at_call 26; refine (known_calls (w.heap.size + 1) w.heap.size k f m.f0 (wm.drewN nd) hfm tm2 (MapII.drewN HIMM.out nd)).mono ?_; rintro e w' ⟨rfl, hd⟩; obtain ⟨nd2, rfl⟩ := hd.out; clear hd; rw [CB.out]))
                refine Reg.by_order [(0, false), (1, false), (2, false), (3, false), (4, false), (5, false), (6, false), (7, false), (8, false), (9, false), (10, false), (11, false), (12, false), (13, false), (14, false), (15, false), (16, false), (17, false), (18, false), (19, true), (20, false), (21, false), (22, false)] [] (fun W => W.cell? ⟨wr.heap.size, 0, none⟩ = some (.int .i64 m.f0) ∧ W.cell? ⟨wr.heap.size, 2, none⟩ = some (.int .i64 m.f2)) (by kernel_rfl) (by kernel_rfl) (fun _ _ d _ _ h => by cases d <;> exact h) ⟨n0, n2⟩ ?_
                iterate 2
                  refine Reg.held_at (v := ?_) rfl rfl rfl ?_ ?_
                  rotate_left
                  · intro W hW
                    obtain ⟨h1, h2⟩ := hW
                    go_simp
                    first | done | rfl
                  go_frame
                refine Reg.held_at (v := .bool false) rfl rfl rfl ?_ ?_
                · intro W hW
                  obtain ⟨h1, h2⟩ := hW
                  go_simp
                  first | done | (simp only [cnb]; done) | rfl
                go_frame
                iterate 5
                  refine Reg.held_at (v := ?_) rfl rfl rfl ?_ ?_
                  rotate_left
                  · intro W hW
                    obtain ⟨h1, h2⟩ := hW
                    go_simp
                    first | done | rfl
                  go_frame
                refine Reg.held_at (v := .bool true) rfl rfl rfl ?_ ?_
                · intro W hW
                  obtain ⟨h1, h2⟩ := hW
                  go_simp
                  first | done | (simp only [cgb]; done) | rfl
                go_frame
                iterate 2
                  refine Reg.held_at (v := ?_) rfl rfl rfl ?_ ?_
                  rotate_left
                  · intro W hW
                    obtain ⟨h1, h2⟩ := hW
                    go_simp
                    first | done | rfl
                  go_frame
                iterate 8
                  refine Reg.off_at rfl rfl rfl ?_
                  go_frame
                refine Reg.skip_on rfl rfl rfl ⟨n0, n2⟩ ?_
                go_frame
                refine Reg.off_at rfl rfl rfl ?_
                go_frame
                iterate 2
                  refine Reg.held_at (v := ?_) rfl rfl rfl ?_ ?_
                  rotate_left
                  · intro W hW
                    obtain ⟨h1, h2⟩ := hW
                    go_simp
                    first | done | rfl
                  go_frame
                refine Reg.nil_ ?_
                go_wp2
                refine bodyPost_ret (v := .tuple #[.pointer none, .bool false]) ?_ rfl ⟨⟨HBM.out.os, HBM.out.tape, HBM.out.output, HBM.out.size, HBM.out.block⟩, LoadOut.bad HN.out⟩
                simp [results, Try.results11, go_sem]
              · rw [if_neg cg] at HE1
                have cgb : decide (m.f2 ≥ (C.length : Int)) = false := by simpa using cg
                have hr0 : 0 ≤ m.f2 := by omega
                have hr1 : m.f2 < C.length := by omega
                obtain ⟨adC, A0, cc0, eC, hcl, hle, hcr⟩ := at_L1 (Kd.C_below HCR.out HBM.out) m.f2 hr0 hr1
                subst eC
                obtain ⟨c, hcd⟩ : ∃ c, c = rd_L1 C m.f2 := ⟨_, rfl⟩
                have HFc : Aside0 (∀ x ∈ c, Fits x) := ⟨by rw [hcd]; exact HFC.out _ (rd_L1_mem hr0 hr1)⟩
                rw [← hcd] at HE1 hcl hle hcr
                have HCRW := Aside0.mk hcr
                clear hcd hcr cd
                by_cases cf : forcesB f m.f0 false c = true
                · rw [if_pos cf] at HE1
                  have CF := Aside0.mk cf
                  by_cases cl : m.f1 = lev
                  · rw [if_pos cl] at HE1
                    have clb : (m.f1 != lev) = false := by simp [cl]
                    have HN := Aside0.mk HE1
                    clear cl HE1 cf
                    go_wp2_with (first
                      | (go_at_call 25; rw [← HWM.out]; refine (atom_calls m.f0 _).mono ?_; rintro e w' ⟨rfl, hd⟩; obtain ⟨nd, rfl⟩ := hd.out; clear hd)
                      | (go_at_call 26; refine (known_calls (w.heap.size + 1) w.heap.size k f m.f0 (wm.drewN nd) hfm tm2 (MapII.drewN HIMM.out nd)).mono ?_; rintro e w' ⟨rfl, hd⟩; obtain ⟨nd2, rfl⟩ := hd.out; clear hd; rw [CB.out]))
                    refine Reg.by_order [(0, false), (1, false), (2, false), (3, false), (4, false), (5, false), (6, false), (7, false), (8, false), (9, false), (10, false), (11, false), (12, false), (13, false), (14, false), (15, false), (16, false), (17, false), (18, false), (19, true), (20, false), (21, false), (22, false)] [] (fun W => W.cell? ⟨wr.heap.size, 0, none⟩ = some (.int .i64 m.f0) ∧ W.cell? ⟨wr.heap.size, 2, none⟩ = some (.int .i64 m.f2) ∧ W.cell? (adC.add m.f2.toNat) = some (.slice A0 c.length cc0)) (by kernel_rfl) (by kernel_rfl) (fun _ _ d _ _ h => by cases d <;> exact h) ⟨n0, n2, hcl⟩ ?_
                    iterate 2
                      refine Reg.held_at (v := ?_) rfl rfl rfl ?_ ?_
                      rotate_left
                      · intro W hW
                        obtain ⟨h1, h2, h3⟩ := hW
                        go_simp
                        first | done | rfl
                      go_frame
                    refine Reg.held_at (v := .bool false) rfl rfl rfl ?_ ?_
                    · intro W hW
                      obtain ⟨h1, h2, h3⟩ := hW
                      go_simp
                      first | done | (simp only [cnb]; done) | rfl
                    go_frame
                    iterate 5
                      refine Reg.held_at (v := ?_) rfl rfl rfl ?_ ?_
                      rotate_left
                      · intro W hW
                        obtain ⟨h1, h2, h3⟩ := hW
                        go_simp
                        first | done | rfl
                      go_frame
                    refine Reg.held_at (v := .bool false) rfl rfl rfl ?_ ?_
                    · intro W hW
                      obtain ⟨h1, h2, h3⟩ := hW
                      go_simp
                      first | done | (simp only [cgb]; done) | rfl
                    go_frame
                    iterate 10
                      refine Reg.held_at (v := ?_) rfl rfl rfl ?_ ?_
                      rotate_left
                      · intro W hW
                        obtain ⟨h1, h2, h3⟩ := hW
                        go_simp
                        first | done | rfl
                      go_frame
                    refine Reg.eff_on rfl rfl (fun K hK => ?_)
                    go_simp
                    refine (forces_calls (w.heap.size + 1) w.heap.size k f A0 cc0 c m.f0 (wm.drewN (nd + nd2 + 1)) (Kd.C_below HCRW.out ⟨rfl, rfl, rfl, Nat.le_refl _, fun _ _ => rfl⟩) hle HFc.out tm2 (MapII.of_block HIMM.out rfl)).mono ?_
                    rintro e w' ⟨rfl, hd⟩
                    obtain ⟨nd4, rfl⟩ := hd.out
                    rw [CF.out]
                    refine hK _ _ (fun _ => ⟨n0, n2, hcl⟩) ?_
                    clear hK hd
                    iterate 3
                      refine Reg.held_at (v := ?_) rfl rfl rfl ?_ ?_
                      rotate_left
                      · intro W hW
                        obtain ⟨h1, h2, h3⟩ := hW
                        go_simp
                        first | done | rfl
                      go_frame
                    refine Reg.nil_ ?_
                    go_wp2
                    refine Reg.still_tail 7 (by kernel_rfl) (by kernel_rfl) (fun nd3 => ?_)
                    simp only [List.take_succ_cons, List.take_zero, List.drop_succ_cons, List.drop_zero]
                    repeat still_step
                    refine wpStill_nil ?_
                    go_wp2_with (at_mapUpdate; refine wp_update _ rfl (.tmp 68) (.tmp 70) (.tmp 71) 44 rfl 3 3 Try.underlying44 Try.underlying3 Try.underlying3 (w.heap.size) k f rfl (MapII.of_block HIMM.out rfl) (by unfold maxLen; omega) m.f0 k rfl rfl hfm (fits_iff.2 (by omega)) ?_; intro w3 ho3 hg3 hs3; have HO3 := Aside0.mk ho3; have HG3 : Aside0 (wm.grownBy w3 (some w.heap.size)) := ⟨⟨hg3.os, hg3.tape, hg3.output, hg3.size, hg3.block⟩⟩; have HS3 := Aside0.mk hs3; clear ho3 hg3 hs3)
                    have hz3 : w3.heap.size = wm.heap.size := HS3.out
                    go_roundw
                    case rel => exact ⟨k + 1, _, _, by omega, by go_num, rfl, by omega, by omega, by rw [Int.natCast_add]; exact HN, ⟨HO3.out⟩, ⟨HBM.out.grown HG3.out (by show w.heap.size ≤ wm.heap.size; omega) (fun k hk => by cases hk; omega)⟩, ⟨(HG3.out.block (w.heap.size + 1) (by show w.heap.size + 1 < wm.heap.size; omega) (by simp)).trans HTM.out⟩, by omega⟩
                    case measure => simp [intOf]; omega
                  · rw [if_neg cl] at HE1
                    have clb : (m.f1 != lev) = true := by simp [cl]
                    have HN := Aside0.mk HE1
                    clear cl HE1 cf
                    go_wp2_with (first
                      | (go_at_call 25; rw [← HWM.out]; refine (atom_calls m.f0 _).mono ?_; rintro e w' ⟨rfl, hd⟩; obtain ⟨nd, rfl⟩ := hd.out; clear hd)
                      | (go_at_call 26; refine (known_calls (w.heap.size + 1) w.heap.size k f m.f0 (wm.drewN nd) hfm tm2 (MapII.drewN HIMM.out nd)).mono ?_; rintro e w' ⟨rfl, hd⟩; obtain ⟨nd2, rfl⟩ := hd.out; clear hd; rw [CB.out]))
                    refine Reg.by_order [(0, false), (1, false), (2, false), (3, false), (4, false), (5, false), (6, false), (7, false), (8, false), (9, false), (10, false), (11, false), (12, false), (13, false), (14, false), (15, false), (16, false), (17, false), (18, false), (19, true), (20, false), (21, false), (22, false)] [] (fun W => W.cell? ⟨wr.heap.size, 0, none⟩ = some (.int .i64 m.f0) ∧ W.cell? ⟨wr.heap.size, 2, none⟩ = some (.int .i64 m.f2) ∧ W.cell? (adC.add m.f2.toNat) = some (.slice A0 c.length cc0)) (by kernel_rfl) (by kernel_rfl) (fun _ _ d _ _ h => by cases d <;> exact h) ⟨n0, n2, hcl⟩ ?_
                    iterate 2
                      refine Reg.held_at (v := ?_) rfl rfl rfl ?_ ?_
                      rotate_left
                      · intro W hW
                        obtain ⟨h1, h2, h3⟩ := hW
                        go_simp
                        first | done | rfl
                      go_frame
                    refine Reg.held_at (v := .bool false) rfl rfl rfl ?_ ?_
                    · intro W hW
                      obtain ⟨h1, h2, h3⟩ := hW
                      go_simp
                      first | done | (simp only [cnb]; done) | rfl
                    go_frame
                    iterate 5
                      refine Reg.held_at (v := ?_) rfl rfl rfl ?_ ?_
                      rotate_left
                      · intro W hW
                        obtain ⟨h1, h2, h3⟩ := hW
                        go_simp
                        first | done | rfl
                      go_frame
                    refine Reg.held_at (v := .bool false) rfl rfl rfl ?_ ?_
                    · intro W hW
                      obtain ⟨h1, h2, h3⟩ := hW
                      go_simp
                      first | done | (simp only [cgb]; done) | rfl
                    go_frame
                    iterate 10
                      refine Reg.held_at (v := ?_) rfl rfl rfl ?_ ?_
                      rotate_left
                      · intro W hW
                        obtain ⟨h1, h2, h3⟩ := hW
                        go_simp
                        first | done | rfl
                      go_frame
                    refine Reg.eff_on rfl rfl (fun K hK => ?_)
                    go_simp
                    refine (forces_calls (w.heap.size + 1) w.heap.size k f A0 cc0 c m.f0 (wm.drewN (nd + nd2 + 1)) (Kd.C_below HCRW.out ⟨rfl, rfl, rfl, Nat.le_refl _, fun _ _ => rfl⟩) hle HFc.out tm2 (MapII.of_block HIMM.out rfl)).mono ?_
                    rintro e w' ⟨rfl, hd⟩
                    obtain ⟨nd4, rfl⟩ := hd.out
                    rw [CF.out]
                    refine hK _ _ (fun _ => ⟨n0, n2, hcl⟩) ?_
                    clear hK hd
                    iterate 3
                      refine Reg.held_at (v := ?_) rfl rfl rfl ?_ ?_
                      rotate_left
                      · intro W hW
                        obtain ⟨h1, h2, h3⟩ := hW
                        go_simp
                        first | done | rfl
                      go_frame
                    refine Reg.nil_ ?_
                    go_wp2
                    refine bodyPost_ret (v := .tuple #[.pointer none, .bool false]) ?_ rfl ⟨⟨HBM.out.os, HBM.out.tape, HBM.out.output, HBM.out.size, HBM.out.block⟩, LoadOut.bad HN.out⟩
                    simp [results, Try.results11, go_sem]
                · rw [if_neg cf] at HE1
                  have CF : Aside0 (forcesB f m.f0 false c = false) := ⟨by simpa using cf⟩
                  have HN := Aside0.mk HE1
                  clear HE1 cf
                  go_wp2_with (first
                    | (go_at_call 25; rw [← HWM.out]; refine (atom_calls m.f0 _).mono ?_; rintro e w' ⟨rfl, hd⟩; obtain ⟨nd, rfl⟩ := hd.out; clear hd)
                    | (go_at_call 26; refine (known_calls (w.heap.size + 1) w.heap.size k f m.f0 (wm.drewN nd) hfm tm2 (MapII.drewN HIMM.out nd)).mono ?_; rintro e w' ⟨rfl, hd⟩; obtain ⟨nd2, rfl⟩ := hd.out; clear hd; rw [CB.out]))
                  refine Reg.by_order [(0, false), (1, false), (2, false), (3, false), (4, false), (5, false), (6, false), (7, false), (8, false), (9, false), (10, false), (11, false), (12, false), (13, false), (14, false), (15, false), (16, false), (17, false), (18, false), (19, true), (20, false), (21, false), (22, false)] [] (fun W => W.cell? ⟨wr.heap.size, 0, none⟩ = some (.int .i64 m.f0) ∧ W.cell? ⟨wr.heap.size, 2, none⟩ = some (.int .i64 m.f2) ∧ W.cell? (adC.add m.f2.toNat) = some (.slice A0 c.length cc0)) (by kernel_rfl) (by kernel_rfl) (fun _ _ d _ _ h => by cases d <;> exact h) ⟨n0, n2, hcl⟩ ?_
                  iterate 2
                    refine Reg.held_at (v := ?_) rfl rfl rfl ?_ ?_
                    rotate_left
                    · intro W hW
                      obtain ⟨h1, h2, h3⟩ := hW
                      go_simp
                      first | done | rfl
                    go_frame
                  refine Reg.held_at (v := .bool false) rfl rfl rfl ?_ ?_
                  · intro W hW
                    obtain ⟨h1, h2, h3⟩ := hW
                    go_simp
                    first | done | (simp only [cnb]; done) | rfl
                  go_frame
                  iterate 5
                    refine Reg.held_at (v := ?_) rfl rfl rfl ?_ ?_
                    rotate_left
                    · intro W hW
                      obtain ⟨h1, h2, h3⟩ := hW
                      go_simp
                      first | done | rfl
                    go_frame
                  refine Reg.held_at (v := .bool false) rfl rfl rfl ?_ ?_
                  · intro W hW
                    obtain ⟨h1, h2, h3⟩ := hW
                    go_simp
                    first | done | (simp only [cgb]; done) | rfl
                  go_frame
                  iterate 10
                    refine Reg.held_at (v := ?_) rfl rfl rfl ?_ ?_
                    rotate_left
                    · intro W hW
                      obtain ⟨h1, h2, h3⟩ := hW
                      go_simp
                      first | done | rfl
                    go_frame
                  refine Reg.eff_on rfl rfl (fun K hK => ?_)
                  go_simp
                  refine (forces_calls (w.heap.size + 1) w.heap.size k f A0 cc0 c m.f0 (wm.drewN (nd + nd2 + 1)) (Kd.C_below HCRW.out ⟨rfl, rfl, rfl, Nat.le_refl _, fun _ _ => rfl⟩) hle HFc.out tm2 (MapII.of_block HIMM.out rfl)).mono ?_
                  rintro e w' ⟨rfl, hd⟩
                  obtain ⟨nd4, rfl⟩ := hd.out
                  rw [CF.out]
                  refine hK _ _ (fun _ => ⟨n0, n2, hcl⟩) ?_
                  clear hK hd
                  iterate 3
                    refine Reg.held_at (v := ?_) rfl rfl rfl ?_ ?_
                    rotate_left
                    · intro W hW
                      obtain ⟨h1, h2, h3⟩ := hW
                      go_simp
                      first | done | rfl
                    go_frame
                  refine Reg.nil_ ?_
                  go_wp2
                  refine bodyPost_ret (v := .tuple #[.pointer none, .bool false]) ?_ rfl ⟨⟨HBM.out.os, HBM.out.tape, HBM.out.output, HBM.out.size, HBM.out.block⟩, LoadOut.bad HN.out⟩
                  simp [results, Try.results11, go_sem]
    · have hkm : k = M.length := by omega
      subst hkm
      have HE1 := HE.out
      rw [List.drop_eq_nil_of_le (Nat.le_refl _)] at HE1
      have HN : Aside0 (some f = L) := ⟨HE1⟩
      have t0 := cell_same T0.out HTk.out
      have t1 := cell_same T1.out HTk.out
      clear HE HE1
      go_wp2
      refine bodyPost_ret (v := .tuple #[.pointer (some ⟨w.heap.size + 1, 0, none⟩), .bool true]) ?_ rfl ⟨HBk.out, ?_⟩
      · simp [results, Try.results11, go_sem]
      · rw [← HN.out]
        exact ⟨_, _, rfl, Nat.le_succ _, Nat.le_refl _, t0, t1, t2, HIMk.out⟩
end Go.Proofs.Ytjjlcnjhmkackaa.T
