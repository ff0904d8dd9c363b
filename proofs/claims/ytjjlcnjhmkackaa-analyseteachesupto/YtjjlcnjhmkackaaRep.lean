/-
  What Replay of analyse answers to a trace of resolutions. No condition but that clauses and chain lie as told.
-/
import Derived.Test.YtjjlcnjhmkackaaRepP
set_option linter.unusedVariables false
set_option linter.unusedSimpArgs false
namespace Go.Proofs.Ytjjlcnjhmkackaa.T
open Go.RowKit Go.Proofs.YtjjlcnjhmkackaaW.PrintWords Go.Proofs.YtjjlcnjhmkackaaW.PrintLast Go.Proofs.YtjjlcnjhmkackaaW.PrintMore
open Go.Proofs.Ytjjlcnjhmkackaa.PA Go.MapII Go.Proofs Go.Sort Go.Lib

theorem Tr.inv {f : Int → Option Int} {C : List (List Int)} {i : Nat} {F ns G : List Int} {n : Int} (h : Tr f C i F (n :: ns) G) : ∃ b, RS f C i F n b ∧ Tr f C (i + 1) (insAll f (neg b) (strike F b) (rd_L1 C n)) ns G := by
  cases h with
  | cons b h1 h2 => exact ⟨b, h1, h2⟩
theorem Tr.nil_inv {f : Int → Option Int} {C : List (List Int)} {i : Nat} {F G : List Int} (h : Tr f C i F [] G) : F = G := by
  cases h; rfl
theorem RS.fall {f : Int → Option Int} {C : List (List Int)} {i : Nat} {F : List Int} {n b : Int} (R : RS f C i F n b) (hP : Places f) (hfC : ∀ c ∈ C, ∀ x ∈ c, Fits x) (hF : Fall f F) : Fall f (insAll f (neg b) (strike F b) (rd_L1 C n)) :=
  (hF.strike b).insAll hP R.isf (hfC _ (rd_L1_mem R.n0 R.n1))

set_option maxRecDepth 100000 in
set_option maxHeartbeats 8000000 in
/-- Replay -/
theorem replay_calls {w : World} {Ac An : Option Addr} {cc cn : Nat} {C : List (List Int)} {chain : List Int} (hC : Kd.C (Kd.slice 3 (Kd.int .i64)) w Ac C.length C) (hcc : C.length ≤ cc) (hfC : ∀ c ∈ C, ∀ x ∈ c, Fits x) (hbC : ∀ c ∈ C, c.length ≤ 1048576)
    (hN : ReadsInt w .i64 An chain.length chain) (hne : chain ≠ []) (f : Int → Option Int) (hP : Places f) (hFl : ∀ F, Fall f F → F.length ≤ 1048576) (G : List Int) (hTr : Tr f C 0 [] chain G) (hGo : ∀ a ∈ G, ∀ b ∈ G, atomOf a = atomOf b → a = b) (hGn : G ≠ []) :
    Calls Try.prog 22 #[.slice Ac C.length cc, .slice An chain.length cn] w fun e w' => ∃ v ys, e = .returned (.tuple #[v, .int .i64 0]) ∧ w'.ownsRow w.heap.size 3 1 v ys.length (nums .i64 ys) ∧ ys.Perm G ∧ ys.Pairwise (fun a b => atomOf a ≤ atomOf b) ∧ Below w.heap.size w w' := by
  have HCR := Aside0.mk hC
  have HFC := Aside0.mk hfC
  have HBC := Aside0.mk hbC
  have HNR := Aside0.mk hN
  have HP := Aside0.mk hP
  have HFL := Aside0.mk hFl
  have HTR := Aside0.mk hTr
  have HGO := Aside0.mk hGo
  have HGN := Aside0.mk hGn
  have hlenC : C.length ≤ 9223372036854775807 := hC.2.1
  have hlenN : chain.length ≤ 9223372036854775807 := hN.2.1
  have hpos : 0 < chain.length := by cases chain with | nil => exact absurd rfl hne | cons a l => simp
  clear hC hfC hbC hN hP hFl hTr hGo hGn hne
  have hmk : ∀ W, (Instr.makeMap 44 none).run Try.prog W = .ok (.map (some W.heap.size)) (W.alloc (.map #[] 0)) := fun W => run_makeMap 44 W
  go_enter Try.func22, Try.ntmps22
  go_wp2
  clear hmk
  have HIM : Aside0 (IM (w.alloc (.map #[] 0)) w.heap.size 0 (fun _ => none)) := ⟨MapII.made w Try.prog 3 3⟩
  obtain ⟨w0, hw0⟩ : ∃ w0, w0 = w.alloc (.map #[] 0) := ⟨_, rfl⟩
  have hB0 : Below w.heap.size w w0 := by rw [hw0]; exact below_alloc (Below.refl _ _) _
  have hz0 : w.heap.size + 1 ≤ w0.heap.size := by rw [hw0]; simp
  rw [← hw0] at HIM ⊢
  have HB0 := Aside0.mk hB0
  clear hw0 hB0
  go_loopw [18] (fun i wr => ∃ (k : Nat) (F : List Int), k ≤ chain.length ∧ i = .int .i64 k ∧ Aside0 (Tr f C k F (chain.drop k) G) ∧ Aside0 (Fall f F) ∧ Aside0 (IM wr w.heap.size F.length (setF F)) ∧ Aside0 (Below w.heap.size w wr) ∧ w.heap.size + 1 ≤ wr.heap.size) (fun i _ => chain.length - (intOf i).toNat)
  case atStart => exact ⟨0, [], Nat.zero_le _, rfl, HTR, ⟨⟨List.Pairwise.nil, by simp, by simp⟩⟩, ⟨by have := HIM.out; exact this⟩, HB0, hz0⟩
  case round =>
    obtain ⟨k, F, hk, rfl, HT, HF, HI, HB, hzk⟩ := hrel
    obtain ⟨r, hr⟩ : ∃ r, r = wr.heap.size := ⟨_, rfl⟩
    by_cases hlt : k < chain.length
    · obtain ⟨adn, e0, hn⟩ := (HNR.out.below HB.out).at_ (k : Int) (by omega) (by omega)
      subst e0
      obtain ⟨n, hne⟩ : ∃ n, n = rd chain (k : Int) := ⟨_, rfl⟩
      have hT := HT.out
      rw [drop_rd hlt, ← hne] at hT
      rw [← hne] at hn
      rw [Int.toNat_natCast] at hn
      clear hne
      obtain ⟨b, hRS, hT2⟩ := hT.inv
      have hn0 := hRS.n0
      have hn1 := hRS.n1
      have hFN := hRS.fall HP.out HFC.out HF.out
      obtain ⟨c, hcd⟩ : ∃ c, c = rd_L1 C n := ⟨_, rfl⟩
      have HMC : Aside0 (c ∈ C) := ⟨by rw [hcd]; exact rd_L1_mem hn0 hn1⟩
      obtain ⟨adC, A0, cc0, eC, hcl0, hle, hcr⟩ := at_L1 HCR.out n hn0 hn1
      rw [← hcd] at hcl0 hle hcr hT2 hFN
      have hone : ∀ l ∈ F, neg l ∈ c ↔ l = b := by rw [hcd]; exact hRS.one
      have hlit : ∀ l ∈ c, atomOf l ≠ 0 := by rw [hcd]; exact hRS.lit
      have HONE := Aside0.mk hone
      have HLIT := Aside0.mk hlit
      have HRS := Aside0.mk hRS
      have HT2 := Aside0.mk hT2
      have HFN := Aside0.mk hFN
      have HCL0 := Aside0.mk hcl0
      have HCRW := Aside0.mk hcr
      have hlc : c.length ≤ 1048576 := HBC.out c HMC.out
      have hlc2 : c.length ≤ 1099511627776 := by omega
      have HFc : Aside0 (∀ x ∈ c, Fits x) := ⟨HFC.out c HMC.out⟩
      have hFb : Fits b := by
        rcases Nat.eq_zero_or_pos k with h | h
        · rw [(hRS.at0 h).2]; decide
        · exact HF.out.fits b (hRS.atS h).1
      have hlF : F.length ≤ 1048576 := HFL.out F HF.out
      have hcla := pw_cell_below HB.out HCL0.out
      clear hcd hcl0 hcr hRS hT2 hFN hT hone hlit
      subst eC
      rcases Nat.eq_zero_or_pos k with hk0 | hk0
      · obtain ⟨hFe, hbe⟩ := HRS.out.at0 hk0
        have HBB : Aside0 (∀ xs : List Int, xs.Perm F → (if b ∈ xs then b else 0) = b) := ⟨fun xs hp => by rw [hbe]; split <;> rfl⟩
        have hbz : (b == 0) = true := by simp [hbe]
        have HNB : Aside0 (∀ l ∈ c, l ≠ neg b) := ⟨fun l hl e => HLIT.out l hl (by rw [e, hbe]; simp [neg, atomOf, wrap64])⟩
        clear hFe hbe
        subst hk0
        have hn' : wr.cell? adn = some (.int .i64 n) := by simpa [Addr.add] using hn
        go_wp2_with (first | (at_range; refine wp_range _ rfl _ 44 rfl 3 3 Try.underlying44 Try.underlying3 w.heap.size F.length (setF F) rfl HI.out ?_; intro w1 cnt0 hr0 hg0 hs0 hc0))
        try go_frame
        rw [← hr] at hr0 hs0 ⊢
        have hrz : w.heap.size + 1 ≤ r := by omega
        have HB1 : Aside0 (Below w.heap.size w w1) := ⟨HB.out.grown hg0 (by omega) (by simp)⟩
        have HR0 := Aside0.mk hr0
        clear hr0 hg0 hc0 hr hcla
        go_loopw [9] (fun v wr => ∃ (bv : Int) (xs : List Int) (left : Int → Bool) (cnt : Nat), v = .int .i64 bv ∧ Aside0 (bv = if b ∈ xs then b else 0) ∧ Aside0 (MapII.Ranges Try.prog 3 3 wr w.heap.size r F.length (setF F) left cnt) ∧ Aside0 (Coll F left xs) ∧ Aside0 (Below w.heap.size w wr) ∧ r < wr.heap.size) (fun _ wr => wr.rangeLeft w.heap.size r)
        case atStart => exact ⟨0, [], _, _, rfl, ⟨by simp⟩, HR0, ⟨⟨List.nodup_nil, fun z => by
          simp only [List.not_mem_nil, false_iff, not_and]
          intro hz
          have := HF.out.fits z hz
          simp [setF_some, hz, this]⟩⟩, HB1, by omega⟩
        case round =>
          obtain ⟨bv, xs, left, cnt, rfl, HBV, HR, HC, HBi, hzi⟩ := hrel
          have hclb := pw_cell_below HBi.out HCL0.out
          go_wp2_with (first
            | (at_next; refine wp_next _ rfl _ rfl 3 3 Try.underlying3 Try.underlying3 w.heap.size r F.length (setF F) left cnt rfl HR.out (fun hc0 hl0 => ?_) (fun x c1 w2 cnt1 hx hlx hfx hr1 hlt1 hg1 hs1 hen => ?_) <;> first | (have HIi := Aside0.mk HR.out.owns; obtain rfl : bv = b := HBV.out.trans (HBB.out xs (HC.out.perm HF.out.nodup hl0)); clear hc0 hl0; skip) | (have HR1 := Aside0.mk hr1; have HLT := Aside0.mk hlt1; have HG1 := Aside0.mk hg1; have HS1 := Aside0.mk hs1; have HFT := Aside0.mk hx; have HLX := Aside0.mk hlx; have HB2 : Aside0 (Below w.heap.size w w2) := ⟨HBi.out.grown hg1 (by omega) (fun k hk => by cases hk; omega)⟩; have hxF : x ∈ F := (by unfold setF at hfx; split at hfx; assumption; cases hfx); have HXF := Aside0.mk hxF; have hxn : x ∉ xs := (fun h => by have := ((HC.out.2 x).1 h).2; rw [hlx] at this; cases this); have hclc := pw_cell_below HB2.out HCL0.out; rcases Decidable.em (x = b) with hxb | hxb <;> first | (have HCT : Aside0 (decide (neg x ∈ c) = true) := ⟨decide_eq_true ((HONE.out x hxF).2 hxb)⟩; obtain rfl : bv = 0 := HBV.out.trans (if_neg (by rw [← hxb]; exact hxn)); have HBN : Aside0 (x = if b ∈ xs ++ [x] then b else 0) := ⟨by rw [if_pos (by simp [hxb])]; exact hxb⟩; clear hr1 hlt1 hg1 hs1 hx hlx hfx hxF hxn hxb; skip) | (have HCT : Aside0 (decide (neg x ∈ c) = false) := ⟨decide_eq_false (fun h => hxb ((HONE.out x hxF).1 h))⟩; have HBN : Aside0 (bv = if b ∈ xs ++ [x] then b else 0) := ⟨by have e : ¬ b = x := fun e => hxb e.symm; rw [HBV.out]; simp [e]⟩; clear hr1 hlt1 hg1 hs1 hx hlx hfx hxF hxn hxb; skip)))
            | (go_at_call 31; refine (contains_calls (neg x) (Kd.C_below HCRW.out HB2.out) hle hlc2).mono ?_; rw [HCT.out]; rintro e w' ⟨rfl, hd⟩; obtain ⟨nd, rfl⟩ := hd.out; clear hd)
            | (at_delete; refine wp_delete _ rfl (.tmp 53) (.tmp 54) 44 3 rfl 3 Try.underlying44 Try.underlying3 w.heap.size F.length (setF F) rfl HIi.out bv rfl hFb ?_; intro w3 ho3 hg3 hs3; have HO3 : Aside0 (IM w3 w.heap.size (strike F bv).length (setF (strike F bv))) := ⟨MapII.tight Try.underlying3 (by rw [setF_strike]; exact ho3) _ (fun x hx => by rw [setF_some] at hx; simpa using hx)⟩; have HB3 : Aside0 (Below w.heap.size w w3) := ⟨HBi.out.grown hg3 (by omega) (fun k hk => by cases hk; omega)⟩; have hs3' : wr.heap.size ≤ w3.heap.size := hg3.size; have hcld := pw_cell_below HB3.out HCL0.out; clear ho3 hg3 hs3))
          · have hz3 : w.heap.size + 1 ≤ w3.heap.size := by omega
            go_loopw [60] (fun i wr => ∃ (j : Nat), j ≤ c.length ∧ i = .int .i64 j ∧ Aside0 (IM wr w.heap.size (insAll f (neg bv) (strike F bv) (c.take j)).length (setF (insAll f (neg bv) (strike F bv) (c.take j)))) ∧ Aside0 (Below w.heap.size w wr) ∧ w.heap.size + 1 ≤ wr.heap.size) (fun i _ => c.length - (intOf i).toNat)
            case atStart => exact ⟨0, Nat.zero_le _, rfl, ⟨by simpa [insAll] using HO3.out⟩, HB3, hz3⟩
            case round =>
              obtain ⟨j, hj, rfl, HIj, HBj, hzj⟩ := hrel
              by_cases hlj : j < c.length
              · obtain ⟨adl, e1, hx⟩ := Kd.at_int (Kd.C_below HCRW.out HBj.out) (j : Int) (by omega) (by omega)
                subst e1
                have HTK := Aside0.mk (take_rd hlj)
                obtain ⟨l, hle1⟩ : ∃ l, l = rd c (j : Int) := ⟨_, rfl⟩
                have hlm : l ∈ c := by rw [hle1]; exact rd_mem hlj
                rw [← hle1] at hx HTK
                rw [Int.toNat_natCast] at hx
                clear hle1
                have hfl : Fits l := HFc.out l hlm
                have hla : (atomOf l == 0) = false := beq_eq_false_iff_ne.2 (HLIT.out l hlm)
                have HBD : Aside0 ((insAll f (neg bv) (strike F bv) (c.take j)).length < maxLen) := ⟨by
                  have h1 := insAll_length (f := f) (x0 := neg bv) (c := c.take j) (F := strike F bv)
                  have h2 : (strike F bv).length ≤ F.length := List.length_filter_le _ _
                  have h3 : (c.take j).length ≤ c.length := List.length_take_le' _ _
                  unfold maxLen; omega⟩
                have HLB : Aside0 (¬ l = neg bv) := ⟨HNB.out l hlm⟩
                clear hlm
                go_wp2_with (first
                  | (go_at_call 25; refine (atom_calls l wr).mono ?_; rintro e w' ⟨rfl, hd⟩; obtain ⟨nd, rfl⟩ := hd.out; clear hd)
                  | (at_mapUpdate; refine wp_update _ rfl (.tmp 75) (.tmp 76) _ 44 rfl 3 3 Try.underlying44 Try.underlying3 Try.underlying3 w.heap.size _ _ rfl (MapII.drewN HIj.out nd) HBD.out l 1 rfl rfl hfl (by decide) ?_; intro w6 ho6 hg6 hs6; have HO6 : Aside0 (IM w6 w.heap.size (insF f l (insAll f (neg bv) (strike F bv) (c.take j))).length (setF (insF f l (insAll f (neg bv) (strike F bv) (c.take j))))) := ⟨MapII.tight Try.underlying3 (by rw [setF_ins]; exact ho6) _ (fun x hx => by rw [setF_some] at hx; simpa using hx)⟩; have HB6 : Aside0 (Below w.heap.size w w6) := ⟨(pw_below_drewN HBj.out nd).grown hg6 (by show w.heap.size ≤ wr.heap.size; omega) (fun k hk => by cases hk; omega)⟩; have hz6 : wr.heap.size ≤ w6.heap.size := hg6.size; clear ho6 hg6 hs6))
                go_roundw
                case rel => exact ⟨j + 1, by omega, by go_num, ⟨by rw [HTK.out, insAll_snoc, if_neg HLB.out]; exact HO6.out⟩, HB6, by omega⟩
                case measure => simp [intOf]; omega
              · have HIE := HIj.out
                rw [List.take_of_length_le (by omega)] at HIE
                have HIE2 := Aside0.mk HIE
                clear HIE
                go_wp2
                go_roundw
                case rel => exact ⟨0 + 1, _, by omega, by go_num, HT2, HFN, HIE2, HBj, hzj⟩
                case measure => simp [intOf]; omega
          · go_roundw
            case rel => exact ⟨_, xs ++ [x], _, cnt1, rfl, HBN, ⟨HR1.out.kept (grown_of_below (pw_below_drewN (Below.refl _ _) nd) none) (by simp) (by simp)⟩, ⟨HC.out.step HXF.out HLX.out⟩, ⟨pw_below_drewN HB2.out nd⟩, by have := HS1.out; show r < w2.heap.size; omega⟩
            case measure =>
              have h1 := (HR1.out.kept (grown_of_below (pw_below_drewN (Below.refl _ _) nd) none) (by simp) (by simp)).left_eq
              have h2 := HR.out.left_eq
              have := HLT.out
              rw [h1, h2]; exact this
          · go_roundw
            case rel => exact ⟨_, xs ++ [x], _, cnt1, rfl, HBN, ⟨HR1.out.kept (grown_of_below (pw_below_drewN (Below.refl _ _) nd) none) (by simp) (by simp)⟩, ⟨HC.out.step HXF.out HLX.out⟩, ⟨pw_below_drewN HB2.out nd⟩, by have := HS1.out; show r < w2.heap.size; omega⟩
            case measure =>
              have h1 := (HR1.out.kept (grown_of_below (pw_below_drewN (Below.refl _ _) nd) none) (by simp) (by simp)).left_eq
              have h2 := HR.out.left_eq
              have := HLT.out
              rw [h1, h2]; exact this
      · obtain ⟨hbF, hbn⟩ := HRS.out.atS hk0
        have HBB : Aside0 (∀ xs : List Int, xs.Perm F → (if b ∈ xs then b else 0) = b) := ⟨fun xs hp => by rw [if_pos (hp.mem_iff.2 hbF)]⟩
        have hbz : (b == 0) = false := by simp [hbn]
        have hkz : decide ((k : Int) > 0) = true := by simp; omega
        clear hbF hbn
        go_wp2_with (first | (at_range; refine wp_range _ rfl _ 44 rfl 3 3 Try.underlying44 Try.underlying3 w.heap.size F.length (setF F) rfl HI.out ?_; intro w1 cnt0 hr0 hg0 hs0 hc0))
        try go_frame
        rw [← hr] at hr0 hs0 ⊢
        have hrz : w.heap.size + 1 ≤ r := by omega
        have HB1 : Aside0 (Below w.heap.size w w1) := ⟨HB.out.grown hg0 (by omega) (by simp)⟩
        have HR0 := Aside0.mk hr0
        clear hr0 hg0 hc0 hr hcla
        go_loopw [9] (fun v wr => ∃ (bv : Int) (xs : List Int) (left : Int → Bool) (cnt : Nat), v = .int .i64 bv ∧ Aside0 (bv = if b ∈ xs then b else 0) ∧ Aside0 (MapII.Ranges Try.prog 3 3 wr w.heap.size r F.length (setF F) left cnt) ∧ Aside0 (Coll F left xs) ∧ Aside0 (Below w.heap.size w wr) ∧ r < wr.heap.size) (fun _ wr => wr.rangeLeft w.heap.size r)
        case atStart => exact ⟨0, [], _, _, rfl, ⟨by simp⟩, HR0, ⟨⟨List.nodup_nil, fun z => by
          simp only [List.not_mem_nil, false_iff, not_and]
          intro hz
          have := HF.out.fits z hz
          simp [setF_some, hz, this]⟩⟩, HB1, by omega⟩
        case round =>
          obtain ⟨bv, xs, left, cnt, rfl, HBV, HR, HC, HBi, hzi⟩ := hrel
          have hclb := pw_cell_below HBi.out HCL0.out
          go_wp2_with (first
            | (at_next; refine wp_next _ rfl _ rfl 3 3 Try.underlying3 Try.underlying3 w.heap.size r F.length (setF F) left cnt rfl HR.out (fun hc0 hl0 => ?_) (fun x c1 w2 cnt1 hx hlx hfx hr1 hlt1 hg1 hs1 hen => ?_) <;> first | (have HIi := Aside0.mk HR.out.owns; obtain rfl : bv = b := HBV.out.trans (HBB.out xs (HC.out.perm HF.out.nodup hl0)); clear hc0 hl0; skip) | (have HR1 := Aside0.mk hr1; have HLT := Aside0.mk hlt1; have HG1 := Aside0.mk hg1; have HS1 := Aside0.mk hs1; have HFT := Aside0.mk hx; have HLX := Aside0.mk hlx; have HB2 : Aside0 (Below w.heap.size w w2) := ⟨HBi.out.grown hg1 (by omega) (fun k hk => by cases hk; omega)⟩; have hxF : x ∈ F := (by unfold setF at hfx; split at hfx; assumption; cases hfx); have HXF := Aside0.mk hxF; have hxn : x ∉ xs := (fun h => by have := ((HC.out.2 x).1 h).2; rw [hlx] at this; cases this); have hclc := pw_cell_below HB2.out HCL0.out; rcases Decidable.em (x = b) with hxb | hxb <;> first | (have HCT : Aside0 (decide (neg x ∈ c) = true) := ⟨decide_eq_true ((HONE.out x hxF).2 hxb)⟩; obtain rfl : bv = 0 := HBV.out.trans (if_neg (by rw [← hxb]; exact hxn)); have HBN : Aside0 (x = if b ∈ xs ++ [x] then b else 0) := ⟨by rw [if_pos (by simp [hxb])]; exact hxb⟩; clear hr1 hlt1 hg1 hs1 hx hlx hfx hxF hxn hxb; skip) | (have HCT : Aside0 (decide (neg x ∈ c) = false) := ⟨decide_eq_false (fun h => hxb ((HONE.out x hxF).1 h))⟩; have HBN : Aside0 (bv = if b ∈ xs ++ [x] then b else 0) := ⟨by have e : ¬ b = x := fun e => hxb e.symm; rw [HBV.out]; simp [e]⟩; clear hr1 hlt1 hg1 hs1 hx hlx hfx hxF hxn hxb; skip)))
            | (go_at_call 31; refine (contains_calls (neg x) (Kd.C_below HCRW.out HB2.out) hle hlc2).mono ?_; rw [HCT.out]; rintro e w' ⟨rfl, hd⟩; obtain ⟨nd, rfl⟩ := hd.out; clear hd)
            | (at_delete; refine wp_delete _ rfl (.tmp 53) (.tmp 54) 44 3 rfl 3 Try.underlying44 Try.underlying3 w.heap.size F.length (setF F) rfl HIi.out bv rfl hFb ?_; intro w3 ho3 hg3 hs3; have HO3 : Aside0 (IM w3 w.heap.size (strike F bv).length (setF (strike F bv))) := ⟨MapII.tight Try.underlying3 (by rw [setF_strike]; exact ho3) _ (fun x hx => by rw [setF_some] at hx; simpa using hx)⟩; have HB3 : Aside0 (Below w.heap.size w w3) := ⟨HBi.out.grown hg3 (by omega) (fun k hk => by cases hk; omega)⟩; have hs3' : wr.heap.size ≤ w3.heap.size := hg3.size; have hcld := pw_cell_below HB3.out HCL0.out; clear ho3 hg3 hs3))
          · have hz3 : w.heap.size + 1 ≤ w3.heap.size := by omega
            go_loopw [60] (fun i wr => ∃ (j : Nat), j ≤ c.length ∧ i = .int .i64 j ∧ Aside0 (IM wr w.heap.size (insAll f (neg bv) (strike F bv) (c.take j)).length (setF (insAll f (neg bv) (strike F bv) (c.take j)))) ∧ Aside0 (Below w.heap.size w wr) ∧ w.heap.size + 1 ≤ wr.heap.size) (fun i _ => c.length - (intOf i).toNat)
            case atStart => exact ⟨0, Nat.zero_le _, rfl, ⟨by simpa [insAll] using HO3.out⟩, HB3, hz3⟩
            case round =>
              obtain ⟨j, hj, rfl, HIj, HBj, hzj⟩ := hrel
              by_cases hlj : j < c.length
              · obtain ⟨adl, e1, hx⟩ := Kd.at_int (Kd.C_below HCRW.out HBj.out) (j : Int) (by omega) (by omega)
                subst e1
                have HTK := Aside0.mk (take_rd hlj)
                obtain ⟨l, hle1⟩ : ∃ l, l = rd c (j : Int) := ⟨_, rfl⟩
                have hlm : l ∈ c := by rw [hle1]; exact rd_mem hlj
                rw [← hle1] at hx HTK
                rw [Int.toNat_natCast] at hx
                clear hle1
                have hfl : Fits l := HFc.out l hlm
                have hla : (atomOf l == 0) = false := beq_eq_false_iff_ne.2 (HLIT.out l hlm)
                have HBD : Aside0 ((insAll f (neg bv) (strike F bv) (c.take j)).length < maxLen) := ⟨by
                  have h1 := insAll_length (f := f) (x0 := neg bv) (c := c.take j) (F := strike F bv)
                  have h2 : (strike F bv).length ≤ F.length := List.length_filter_le _ _
                  have h3 : (c.take j).length ≤ c.length := List.length_take_le' _ _
                  unfold maxLen; omega⟩
                clear hlm
                by_cases hlb : l = neg bv
                · have hlbb : (l != neg bv) = false := by simp [hlb]
                  have hlbw : (l != wrap64 (-bv)) = false := hlbb
                  have HLB := Aside0.mk hlb
                  clear hlb
                  go_wp2_with (first
                    | (go_at_call 25; refine (atom_calls l wr).mono ?_; rintro e w' ⟨rfl, hd⟩; obtain ⟨nd, rfl⟩ := hd.out; clear hd))
                  go_roundw
                  case rel => exact ⟨j + 1, by omega, by go_num, ⟨by rw [HTK.out, insAll_snoc, if_pos HLB.out]; exact MapII.drewN HIj.out nd⟩, ⟨pw_below_drewN HBj.out nd⟩, hzj⟩
                  case measure => simp [intOf]; omega
                · have hlbb : (l != neg bv) = true := by simp [hlb]
                  have hlbw : (l != wrap64 (-bv)) = true := hlbb
                  have HLB := Aside0.mk hlb
                  clear hlb
                  go_wp2_with (first
                    | (go_at_call 25; refine (atom_calls l wr).mono ?_; rintro e w' ⟨rfl, hd⟩; obtain ⟨nd, rfl⟩ := hd.out; clear hd)
                    | (at_mapUpdate; refine wp_update _ rfl (.tmp 75) (.tmp 76) _ 44 rfl 3 3 Try.underlying44 Try.underlying3 Try.underlying3 w.heap.size _ _ rfl (MapII.drewN HIj.out nd) HBD.out l 1 rfl rfl hfl (by decide) ?_; intro w6 ho6 hg6 hs6; have HO6 : Aside0 (IM w6 w.heap.size (insF f l (insAll f (neg bv) (strike F bv) (c.take j))).length (setF (insF f l (insAll f (neg bv) (strike F bv) (c.take j))))) := ⟨MapII.tight Try.underlying3 (by rw [setF_ins]; exact ho6) _ (fun x hx => by rw [setF_some] at hx; simpa using hx)⟩; have HB6 : Aside0 (Below w.heap.size w w6) := ⟨(pw_below_drewN HBj.out nd).grown hg6 (by show w.heap.size ≤ wr.heap.size; omega) (fun k hk => by cases hk; omega)⟩; have hz6 : wr.heap.size ≤ w6.heap.size := hg6.size; clear ho6 hg6 hs6))
                  go_roundw
                  case rel => exact ⟨j + 1, by omega, by go_num, ⟨by rw [HTK.out, insAll_snoc, if_neg HLB.out]; exact HO6.out⟩, HB6, by omega⟩
                  case measure => simp [intOf]; omega
              · have HIE := HIj.out
                rw [List.take_of_length_le (by omega)] at HIE
                have HIE2 := Aside0.mk HIE
                clear HIE
                go_wp2
                go_roundw
                case rel => exact ⟨k + 1, _, by omega, by go_num, HT2, HFN, HIE2, HBj, hzj⟩
                case measure => simp [intOf]; omega
          · go_roundw
            case rel => exact ⟨_, xs ++ [x], _, cnt1, rfl, HBN, ⟨HR1.out.kept (grown_of_below (pw_below_drewN (Below.refl _ _) nd) none) (by simp) (by simp)⟩, ⟨HC.out.step HXF.out HLX.out⟩, ⟨pw_below_drewN HB2.out nd⟩, by have := HS1.out; show r < w2.heap.size; omega⟩
            case measure =>
              have h1 := (HR1.out.kept (grown_of_below (pw_below_drewN (Below.refl _ _) nd) none) (by simp) (by simp)).left_eq
              have h2 := HR.out.left_eq
              have := HLT.out
              rw [h1, h2]; exact this
          · go_roundw
            case rel => exact ⟨_, xs ++ [x], _, cnt1, rfl, HBN, ⟨HR1.out.kept (grown_of_below (pw_below_drewN (Below.refl _ _) nd) none) (by simp) (by simp)⟩, ⟨HC.out.step HXF.out HLX.out⟩, ⟨pw_below_drewN HB2.out nd⟩, by have := HS1.out; show r < w2.heap.size; omega⟩
            case measure =>
              have h1 := (HR1.out.kept (grown_of_below (pw_below_drewN (Below.refl _ _) nd) none) (by simp) (by simp)).left_eq
              have h2 := HR.out.left_eq
              have := HLT.out
              rw [h1, h2]; exact this
    · have hT := HT.out
      rw [List.drop_eq_nil_of_le (by omega)] at hT
      obtain rfl := hT.nil_inv
      have hFl := HFL.out F HF.out
      have hp0 : ((chain.length : Int) == 0) = false := beq_eq_false_iff_ne.2 (by omega)
      clear hT
      go_wp2_with (first | (at_range; refine wp_range _ rfl _ 44 rfl 3 3 Try.underlying44 Try.underlying3 w.heap.size F.length (setF F) rfl HI.out ?_; intro w1 cnt0 hr0 hg0 hs0 hc0))
      try go_frame
      rw [← hr] at hr0 hs0 ⊢
      have hrz : w.heap.size + 1 ≤ r := by omega
      have HB1 : Aside0 (Below w.heap.size w w1) := ⟨HB.out.grown hg0 (by omega) (by simp)⟩
      have HR0 := Aside0.mk hr0
      clear hr0 hg0 hc0 hr
      go_loopw [13] (fun v wr => ∃ (xs : List Int) (left : Int → Bool) (cnt : Nat), Aside0 (MapII.Ranges Try.prog 3 3 wr w.heap.size r F.length (setF F) left cnt) ∧ Aside0 (wr.ownsRow (r + 1) 3 1 v xs.length (nums .i64 xs)) ∧ Aside0 (Coll F left xs) ∧ Aside0 (Below w.heap.size w wr) ∧ r + 1 ≤ wr.heap.size) (fun _ wr => wr.rangeLeft w.heap.size r)
      case atStart => exact ⟨[], _, _, HR0, ⟨own_nil _ _ _ _⟩, ⟨⟨List.nodup_nil, fun z => by
        simp only [List.not_mem_nil, false_iff, not_and]
        intro hz
        have := HF.out.fits z hz
        simp [setF_some, hz, this]⟩⟩, HB1, by omega⟩
      case round =>
        obtain ⟨xs, left, cnt, HR, HO, HC, HBi, hzi⟩ := hrel
        have hxl : xs.length ≤ 1099511627776 := Nat.le_trans HC.out.len (by omega)
        go_wp2_with (first
          | (at_next; refine wp_next _ rfl _ rfl 3 3 Try.underlying3 Try.underlying3 w.heap.size r F.length (setF F) left cnt rfl HR.out (fun hc0 hl0 => ?_) (fun x c1 w2 cnt1 hx hlx hfx hr1 hlt1 hg1 hs1 hen => ?_) <;> first | (have HL := Aside0.mk hl0; clear hc0 hl0; skip) | (have HR1 := Aside0.mk hr1; have HLT := Aside0.mk hlt1; have HFX := Aside0.mk hfx; have HLX := Aside0.mk hlx; have HG1 := Aside0.mk hg1; have HS1 := Aside0.mk hs1; have HFT := Aside0.mk hx; clear hr1 hlt1 hfx hlx hg1 hs1 hx; skip))
          | (at_builtin; go_must (refine print_append_num (w0 := w2) (r + 1) rfl (.tmp 88) (.tmp 90) 27 3 .i64 8 rfl Try.underlying27 info3 (by decide) u13 xs x rfl rfl (HO.out.kept HG1.out (.inr (own_ne HO.out (by omega)).symm)) (Below.refl _ _) (by rw [HS1.out]; exact hzi) (by omega) ?_); intro v1 w4 ho2 hb2 hg2 hat2))
        · refine (sortR_calls (base := r + 1) (v := u13) HF.out.fits HGO.out HGN.out (HC.out.perm HF.out.nodup HL.out) HO.out hxl).mono ?_
          rintro e w3 ⟨rfl, ys, h1, h2, h3, h4⟩
          have HYS := Aside0.mk h1
          have HYP := Aside0.mk h2
          have HYO := Aside0.mk h3
          have HYB : Aside0 (Below w.heap.size w w3) := ⟨HBi.out.grown h4 (by omega) (fun k hk => by have := own_base HO.out k hk; omega)⟩
          clear h1 h2 h3 h4
          go_wp2
          refine bodyPost_ret (v := .tuple #[u13, .int .i64 0]) ?_ rfl ⟨u13, ys, rfl, own_mono HYO.out (by omega), HYS.out, HYP.out, HYB.out⟩
          simp [results, Try.results22, go_sem]
        · have hne := fun k (hk : k < r + 1) => own_ne HO.out hk
          have hB2 : Below w.heap.size w w2 := HBi.out.grown HG1.out (by omega) (fun k hk => by cases hk; omega)
          have hB4 : Below w.heap.size w w4 := hB2.grown hg2 hB2.size (fun k hk => by have := own_base HO.out k hk; omega)
          have hXF : x ∈ F := by
            have := HFX.out
            unfold setF at this
            split at this
            · assumption
            · cases this
          go_roundw
          case rel => exact ⟨xs ++ [x], _, cnt1, ⟨HR1.out.kept hg2 (hne w.heap.size (by omega)) (hne _ (by omega))⟩, ⟨ho2⟩, ⟨HC.out.step hXF HLX.out⟩, ⟨hB4⟩, by have := hg2.size; have := HS1.out; omega⟩
          case measure =>
            have h1 := (HR1.out.kept hg2 (hne w.heap.size (by omega)) (hne _ (by omega))).left_eq
            have h2 := HR.out.left_eq
            have := HLT.out
            rw [h1, h2]; exact this
end Go.Proofs.Ytjjlcnjhmkackaa.T
