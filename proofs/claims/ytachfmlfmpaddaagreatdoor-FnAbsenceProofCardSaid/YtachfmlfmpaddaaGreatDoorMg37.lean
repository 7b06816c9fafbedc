/- Walks and plain facts, joined: FilesS. -/
import Derived.Test.YtachfmlfmpaddaaGreatDoorMg6
import Derived.Test.YtachfmlfmpaddaaGreatDoorMg22
import Derived.Test.YtachfmlfmpaddaaGreatDoorMg25
import Derived.Test.YtachfmlfmpaddaaGreatDoorMg30
import Derived.Test.YtachfmlfmpaddaaGreatDoorMg36
set_option linter.unusedVariables false
set_option linter.unusedSimpArgs false

/- Walks: the files below a folder, the reference's way. -/
namespace Go.Proofs.YtachfmlfmpaddaaGreatDoor
open Go.RowKit

def isEmpS (B : Nat) : Value → World → Prop := fun v w => ∃ b, v = .slice (some ⟨b, 0, none⟩) 0 0 ∧ B ≤ b ∧ w.heap[b]? = some (.cells #[] 9 (0, 0)) ∧ OwnS w B v []
def lfCons (j i : Nat) : Bool := (j == 9 && i == 7) || (j == 16 && (i == 9 || i == 15))
def lfS (W0 : World) (ov : Value) (j : Nat) (w' w'' : World) : Prop := w' = w'' ∨ Below w'.heap.size w' w'' ∨ (j = 9 ∧ ∃ q, W0.heap.size ≤ q ∧ w'.heap[q]? = some (.cells #[] 9 (0, 0)) ∧ w'.grownBy w'' (some q)) ∨ (j = 16 ∧ ∃ row, (∀ q, row = some q → W0.heap.size ≤ q) ∧ w'.grownBy w'' row) ∨ (j = 18 ∧ w'.grownBy w'' ov.ownBlock)
/-- What a region keeps that appends to a row at its operation 18 alone. -/
def LJ (W0 : World) (B : Nat) (ov : Value) (acc : List ByteArray) (L : Nat → Bool) (_ : Nat) (w : World) : Prop := Frm (fun k => ov.ownBlock = some k) W0 w ∧ (L 18 = false → OwnS w B ov acc)
section
variable {W0 w w' : World} {B n i : Nat} {ov : Value} {acc : List ByteArray} {L : Nat → Bool}
theorem LJ.below (h : LJ W0 B ov acc L n w) (hb : Below w.heap.size w w') (hi : i ≠ 18) : LJ W0 B ov acc (fun k => if k = i then true else L k) (n + 1) w' :=
  ⟨h.1.then hb, fun e => (h.2 (by simpa [hi.symm] using e)).on hb⟩
theorem LJ.step (h : LJ W0 B ov acc L n w) (hi : i ≠ 18) : LJ W0 B ov acc (fun k => if k = i then true else L k) (n + 1) w := h.below (Below.refl _ _) hi
theorem LJ.grown {row : Option Nat} (hOL : ∀ q, ov.ownBlock = some q → q < W0.heap.size) (h : LJ W0 B ov acc L n w) (hg : w.grownBy w' row) (hr : ∀ q, row = some q → W0.heap.size ≤ q) (hi : i ≠ 18) : LJ W0 B ov acc (fun k => if k = i then true else L k) (n + 1) w' := by
  refine ⟨h.1.trans (S' := fun k => row = some k) (Frm.of_grown hg (fun g hg => hg)) (fun x hx e => ?_), fun e => (h.2 (by simpa [hi.symm] using e)).kept hg ?_⟩
  · have := hr x e; omega
  · cases hov : ov.ownBlock with
    | none => exact .inl rfl
    | some y => exact .inr (fun e => by have h1 := hOL y hov; have h2 := hr y e.symm; omega)
theorem LJ.own (h : LJ W0 B ov acc L n w) (hg : w.grownBy w' ov.ownBlock) : LJ W0 B ov acc (fun k => if k = 18 then true else L k) (n + 1) w' :=
  ⟨h.1.then' (Frm.of_grown hg (fun g hg => hg)), fun e => by simp at e⟩
theorem own_ne_out {v : Value} {xs : List ByteArray} (hOL : ∀ q, ov.ownBlock = some q → q < W0.heap.size) (h : OwnS w W0.heap.size v xs) : v.ownBlock = none ∨ v.ownBlock ≠ ov.ownBlock := by
  cases hv : v.ownBlock with
  | none => exact .inl rfl
  | some g => exact .inr (fun e => by have h1 := hOL g e.symm; have h2 := (h.lt g hv).1; omega)
end
def isResS (W0 : World) (B : Nat) (ov : Value) (ys : List ByteArray) : Value → World → Prop := fun v w => OwnS w B v ys ∧ ∀ g, v.ownBlock = some g → ov.ownBlock = some g ∨ W0.heap.size ≤ g

/-- What the reference gives below names. -/
noncomputable def filesS (xs : List Pc) (k : Nat) (pr : Int) (parts : List ByteArray) : List ByteArray := if isFile (textAt xs pr) = true ∧ parts ≠ [] then [strL (joinP (parts.map bs))] else belowF xs k pr parts
theorem filesS_step (xs : List Pc) (k : Nat) (t : ByteArray) (r : Int) (parts : List ByteArray) : filesS xs k r (parts ++ [t]) = fileStep xs k parts ⟨t, r⟩ := by
  unfold filesS fileStep
  by_cases h : isFile (textAt xs r) = true
  · rw [if_pos ⟨h, by simp⟩, if_pos h]
  · rw [if_neg (fun e => h e.1), if_neg h]

set_option maxHeartbeats 2000000 in
set_option maxRecDepth 100000 in
theorem spec_l11Files_c (xs : List Pc) (hs : storeOk xs = true) : ∀ (k : Nat) (v pv : Value) (pr : Int) (parts : List ByteArray) (w : World), parts.length + k = 3 → Pcs w w.heap.size v xs → Strs w w.heap.size pv parts → (∀ x ∈ parts, x.size ≤ 1000) →
    Calls Tryz.prog 136 #[v, .int .i64 pr, pv] w fun e w' => ∃ v', e = .returned v' ∧ OwnS w' w.heap.size v' (filesS xs k pr parts) ∧ Below w.heap.size w w' := by
  intro k
  induction k with
  | zero =>
    intro v pv pr parts w hk h hp hps
    obtain ⟨m, hm⟩ : ∃ m, parts.length = m := ⟨_, rfl⟩
    have hp0 := hp
    obtain ⟨pa, pc, rfl, _, _, _⟩ := hp.strs hm
    have HP : Hid (∀ wx, Below w.heap.size w wx → Pcs wx wx.heap.size v xs) := hid fun wx hx => h.on hx
    have HPP := hid hp0
    have HPW : Hid (∀ wx, Below w.heap.size w wx → Strs wx wx.heap.size (.slice pa m pc) parts) := hid fun wx hx => HPP.out.on hx
    have HPS := hid hps
    have HPL := hid (show parts.length ≤ 1000 by omega)
    have HM := hid hm
    have HTS := hid (text_small hs pr)
    obtain ⟨T, hT⟩ : ∃ T, (getP xs pr).getD ByteArray.empty = T := ⟨_, rfl⟩
    have HTX : Hid (textAt xs pr = bs T) := hid (by unfold textAt; rw [hT])
    rw [hT] at HTS
    have HTT := hid hT
    obtain ⟨p, hpp⟩ : ∃ p, hasP xs pr = p := ⟨_, rfl⟩
    obtain ⟨fi, hfi⟩ : ∃ fi, isFile (bs T) = fi := ⟨_, rfl⟩
    obtain ⟨fo, hfo⟩ : ∃ fo, (readFolder (bs T)).isSome = fo := ⟨_, rfl⟩
    obtain ⟨es, hes⟩ : ∃ es, entsOf (bs T) = es := ⟨_, rfl⟩
    have HPR := hid hpp
    have HFI := hid hfi
    have HFO := hid hfo
    have HES := hid hes
    have HFP := hid (show p = false → fi = false ∧ fo = false from fun e => by
      have h0 : textAt xs pr = [] := textAt_none (by rw [hpp, e])
      rw [HTX.out] at h0
      rw [h0] at hfi hfo
      exact ⟨hfi.symm, by rw [← hfo, readFolder_emp]; rfl⟩)
    have HFF := hid (show fi = true → fo = false from fun e => by rw [← hfo, file_no_folder (by rw [hfi, e])]; rfl)
    have HEN := hid (show fo = false → es = [] from fun e => by rw [← hes]; exact entsOf_none' (by rw [hfo, e]))
    clear h hp hp0 hps hT hpp hfi hfo hes hm
    cases p
    · obtain ⟨rfl, rfl⟩ := HFP.out rfl
      have HO := hid (show filesS xs 0 pr parts = [] by unfold filesS; rw [if_neg (fun e => by have := e.1; rw [HTX.out, HFI.out] at this; cases this)]; unfold belowF; rfl)
      have HE0 := hid (HEN.out rfl)
      obtain ⟨W1, hW1⟩ : ∃ W1, W1 = w.alloc (.cells #[] 9) := ⟨_, rfl⟩
      have hal : Below w.heap.size w W1 := by rw [hW1]; exact (Below.refl _ _).alloc (Nat.le_refl _) _
      have hown0 : OwnS W1 w.heap.size (.slice (some ⟨w.heap.size, 0, none⟩) 0 0) [] := by rw [hW1]; exact Own.made _ (Nat.le_refl _)
      go_enter Tryz.func136, Tryz.ntmps136
      go_wp2_with fail
      refine (spec_l4Get_c _ xs pr _ _ (HP.out _ (Below.refl _ _))).mono ?_
      rw [HPR.out, HTT.out]
      rintro e w1 ⟨rfl, rfl⟩
      go_wp2_with fail
      refine (spec_ReadFile_e T _ (Nat.le_trans HTS.out (by omega))).mono ?_
      rw [HFI.out]
      rintro e w1 ⟨rfl, rfl⟩
      go_wp2_with fail
      rw [← hW1]
      refine (spec_ReadFolder_c T _ (Nat.le_trans HTS.out (by omega))).mono ?_
      rw [HFO.out, HES.out]
      rintro e w3 ⟨lv, rfl, o3, b3⟩
      have d3 := bl_then hal b3
      have own3 := hown0.on b3
      obtain ⟨n, hn⟩ : ∃ n, es.length = n := ⟨_, rfl⟩
      obtain ⟨la, lc, rfl, _, _, _⟩ := (Rd.of_own o3).ents hn
      obtain rfl : n = 0 := by rw [← hn, HE0.out]; rfl
      clear hn o3 b3 hal hown0 hW1
      go_wp2
      go_loopw [11, 14] (fun out iv wr => iv = .int .i64 (0 : Nat) ∧ out = .slice (some ⟨w.heap.size, 0, none⟩) 0 0 ∧ wr = w3) (fun _ _ _ => 0)
      case atStart => exact ⟨rfl, rfl, rfl⟩
      case round =>
        obtain ⟨rfl, rfl, rfl⟩ := hrel
        go_wp2
        go_ret
        exact ⟨_, rfl, by rw [HO.out]; exact own3, d3⟩
    cases fi
    · cases fo
      · skip
        have HO := hid (show filesS xs 0 pr parts = [] by unfold filesS; rw [if_neg (fun e => by have := e.1; rw [HTX.out, HFI.out] at this; cases this)]; unfold belowF; rfl)
        have HE0 := hid (HEN.out rfl)
        obtain ⟨W1, hW1⟩ : ∃ W1, W1 = w.alloc (.cells #[] 9) := ⟨_, rfl⟩
        have hal : Below w.heap.size w W1 := by rw [hW1]; exact (Below.refl _ _).alloc (Nat.le_refl _) _
        have hown0 : OwnS W1 w.heap.size (.slice (some ⟨w.heap.size, 0, none⟩) 0 0) [] := by rw [hW1]; exact Own.made _ (Nat.le_refl _)
        go_enter Tryz.func136, Tryz.ntmps136
        go_wp2_with fail
        refine (spec_l4Get_c _ xs pr _ _ (HP.out _ (Below.refl _ _))).mono ?_
        rw [HPR.out, HTT.out]
        rintro e w1 ⟨rfl, rfl⟩
        go_wp2_with fail
        refine (spec_ReadFile_e T _ (Nat.le_trans HTS.out (by omega))).mono ?_
        rw [HFI.out]
        rintro e w1 ⟨rfl, rfl⟩
        go_wp2_with fail
        rw [← hW1]
        refine (spec_ReadFolder_c T _ (Nat.le_trans HTS.out (by omega))).mono ?_
        rw [HFO.out, HES.out]
        rintro e w3 ⟨lv, rfl, o3, b3⟩
        have d3 := bl_then hal b3
        have own3 := hown0.on b3
        obtain ⟨n, hn⟩ : ∃ n, es.length = n := ⟨_, rfl⟩
        obtain ⟨la, lc, rfl, _, _, _⟩ := (Rd.of_own o3).ents hn
        obtain rfl : n = 0 := by rw [← hn, HE0.out]; rfl
        clear hn o3 b3 hal hown0 hW1
        go_wp2
        go_loopw [11, 14] (fun out iv wr => iv = .int .i64 (0 : Nat) ∧ out = .slice (some ⟨w.heap.size, 0, none⟩) 0 0 ∧ wr = w3) (fun _ _ _ => 0)
        case atStart => exact ⟨rfl, rfl, rfl⟩
        case round =>
          obtain ⟨rfl, rfl, rfl⟩ := hrel
          go_wp2
          go_ret
          exact ⟨_, rfl, by rw [HO.out]; exact own3, d3⟩
      · obtain rfl : m = 3 := by have := HM.out; omega
        have HO := hid (show filesS xs 0 pr parts = [] by unfold filesS; rw [if_neg (fun e => by have := e.1; rw [HTX.out, HFI.out] at this; cases this)]; unfold belowF; rfl)
        obtain ⟨W1, hW1⟩ : ∃ W1, W1 = w.alloc (.cells #[] 9) := ⟨_, rfl⟩
        have hal : Below w.heap.size w W1 := by rw [hW1]; exact (Below.refl _ _).alloc (Nat.le_refl _) _
        have hown0 : OwnS W1 w.heap.size (.slice (some ⟨w.heap.size, 0, none⟩) 0 0) [] := by rw [hW1]; exact Own.made _ (Nat.le_refl _)
        go_enter Tryz.func136, Tryz.ntmps136
        go_wp2_with fail
        refine (spec_l4Get_c _ xs pr _ _ (HP.out _ (Below.refl _ _))).mono ?_
        rw [HPR.out, HTT.out]
        rintro e w1 ⟨rfl, rfl⟩
        go_wp2_with fail
        refine (spec_ReadFile_e T _ (Nat.le_trans HTS.out (by omega))).mono ?_
        rw [HFI.out]
        rintro e w1 ⟨rfl, rfl⟩
        go_wp2_with fail
        rw [← hW1]
        refine (spec_ReadFolder_c T _ (Nat.le_trans HTS.out (by omega))).mono ?_
        rw [HFO.out, HES.out]
        rintro e w3 ⟨lv, rfl, o3, b3⟩
        have d3 := bl_then hal b3
        have own3 := hown0.on b3
        obtain ⟨n, hn⟩ : ∃ n, es.length = n := ⟨_, rfl⟩
        obtain ⟨la, lc, rfl, _, _, _⟩ := (Rd.of_own o3).ents hn
        clear hn o3 b3 hal hown0 hW1
        go_wp2
        go_loopw [11, 14] (fun out iv wr => iv = .int .i64 (0 : Nat) ∧ out = .slice (some ⟨w.heap.size, 0, none⟩) 0 0 ∧ wr = w3) (fun _ _ _ => 0)
        case atStart => exact ⟨rfl, rfl, rfl⟩
        case round =>
          obtain ⟨rfl, rfl, rfl⟩ := hrel
          by_cases hn0 : 0 < n
          · have hn1 : (0 : Int) < n := by omega
            go_wp2
            go_ret
            exact ⟨_, rfl, by rw [HO.out]; exact own3, d3⟩
          · have hn1 : ¬ (0 : Int) < n := by omega
            go_wp2
            go_ret
            exact ⟨_, rfl, by rw [HO.out]; exact own3, d3⟩
    · obtain rfl : fo = false := HFF.out rfl
      by_cases hm0 : m = 0
      · subst hm0
        have HO := hid (show filesS xs 0 pr parts = [] by unfold filesS; rw [if_neg (fun e => by have := HM.out; exact e.2 (List.eq_nil_of_length_eq_zero this))]; unfold belowF; rfl)
        have HE0 := hid (HEN.out rfl)
        obtain ⟨W1, hW1⟩ : ∃ W1, W1 = w.alloc (.cells #[] 9) := ⟨_, rfl⟩
        have hal : Below w.heap.size w W1 := by rw [hW1]; exact (Below.refl _ _).alloc (Nat.le_refl _) _
        have hown0 : OwnS W1 w.heap.size (.slice (some ⟨w.heap.size, 0, none⟩) 0 0) [] := by rw [hW1]; exact Own.made _ (Nat.le_refl _)
        go_enter Tryz.func136, Tryz.ntmps136
        go_wp2_with fail
        refine (spec_l4Get_c _ xs pr _ _ (HP.out _ (Below.refl _ _))).mono ?_
        rw [HPR.out, HTT.out]
        rintro e w1 ⟨rfl, rfl⟩
        go_wp2_with fail
        refine (spec_ReadFile_e T _ (Nat.le_trans HTS.out (by omega))).mono ?_
        rw [HFI.out]
        rintro e w1 ⟨rfl, rfl⟩
        go_wp2_with fail
        rw [← hW1]
        refine (spec_ReadFolder_c T _ (Nat.le_trans HTS.out (by omega))).mono ?_
        rw [HFO.out, HES.out]
        rintro e w3 ⟨lv, rfl, o3, b3⟩
        have d3 := bl_then hal b3
        have own3 := hown0.on b3
        obtain ⟨n, hn⟩ : ∃ n, es.length = n := ⟨_, rfl⟩
        obtain ⟨la, lc, rfl, _, _, _⟩ := (Rd.of_own o3).ents hn
        obtain rfl : n = 0 := by rw [← hn, HE0.out]; rfl
        clear hn o3 b3 hal hown0 hW1
        go_wp2
        go_loopw [11, 14] (fun out iv wr => iv = .int .i64 (0 : Nat) ∧ out = .slice (some ⟨w.heap.size, 0, none⟩) 0 0 ∧ wr = w3) (fun _ _ _ => 0)
        case atStart => exact ⟨rfl, rfl, rfl⟩
        case round =>
          obtain ⟨rfl, rfl, rfl⟩ := hrel
          go_wp2
          go_ret
          exact ⟨_, rfl, by rw [HO.out]; exact own3, d3⟩
      · skip
        have HO := hid (show filesS xs 0 pr parts = [strL (joinP (parts.map bs))] by unfold filesS; rw [if_pos ⟨by rw [HTX.out]; exact HFI.out, fun e => by have := HM.out; rw [e] at this; simp at this; omega⟩])
        have hmp : (0 : Int) < m := by omega
        go_enter Tryz.func136, Tryz.ntmps136
        go_wp2_with fail
        refine (spec_l4Get_c _ xs pr _ _ (HP.out _ (Below.refl _ _))).mono ?_
        rw [HPR.out, HTT.out]
        rintro e w1 ⟨rfl, rfl⟩
        go_wp2_with fail
        refine (spec_ReadFile_e T _ (Nat.le_trans HTS.out (by omega))).mono ?_
        rw [HFI.out]
        rintro e w1 ⟨rfl, rfl⟩
        go_wp2_with fail
        refine (spec_JoinPath_c _ parts _ HPP.out HPS.out HPL.out).mono ?_
        rintro e w2 ⟨rfl, rfl⟩
        go_wp2
        go_ret
        exact ⟨_, rfl, by rw [HO.out]; exact Own.lit _ (Nat.le_refl _) [_] _ 1 rfl rfl rfl (by decide), (Below.refl _ _).alloc (Nat.le_refl _) _⟩
  | succ k ih =>
    intro v pv pr parts w hk h hp hps
    obtain ⟨m, hm⟩ : ∃ m, parts.length = m := ⟨_, rfl⟩
    have hp0 := hp
    obtain ⟨pa, pc, rfl, _, _, _⟩ := hp.strs hm
    have HP : Hid (∀ wx, Below w.heap.size w wx → Pcs wx wx.heap.size v xs) := hid fun wx hx => h.on hx
    have HPP := hid hp0
    have HPW : Hid (∀ wx, Below w.heap.size w wx → Strs wx wx.heap.size (.slice pa m pc) parts) := hid fun wx hx => HPP.out.on hx
    have HPS := hid hps
    have HPL := hid (show parts.length ≤ 1000 by omega)
    have HM := hid hm
    have HTS := hid (text_small hs pr)
    obtain ⟨T, hT⟩ : ∃ T, (getP xs pr).getD ByteArray.empty = T := ⟨_, rfl⟩
    have HTX : Hid (textAt xs pr = bs T) := hid (by unfold textAt; rw [hT])
    rw [hT] at HTS
    have HTT := hid hT
    obtain ⟨p, hpp⟩ : ∃ p, hasP xs pr = p := ⟨_, rfl⟩
    obtain ⟨fi, hfi⟩ : ∃ fi, isFile (bs T) = fi := ⟨_, rfl⟩
    obtain ⟨fo, hfo⟩ : ∃ fo, (readFolder (bs T)).isSome = fo := ⟨_, rfl⟩
    obtain ⟨es, hes⟩ : ∃ es, entsOf (bs T) = es := ⟨_, rfl⟩
    have HPR := hid hpp
    have HFI := hid hfi
    have HFO := hid hfo
    have HES := hid hes
    have HFP := hid (show p = false → fi = false ∧ fo = false from fun e => by
      have h0 : textAt xs pr = [] := textAt_none (by rw [hpp, e])
      rw [HTX.out] at h0
      rw [h0] at hfi hfo
      exact ⟨hfi.symm, by rw [← hfo, readFolder_emp]; rfl⟩)
    have HFF := hid (show fi = true → fo = false from fun e => by rw [← hfo, file_no_folder (by rw [hfi, e])]; rfl)
    have HEN := hid (show fo = false → es = [] from fun e => by rw [← hes]; exact entsOf_none' (by rw [hfo, e]))
    clear h hp hp0 hps hT hpp hfi hfo hes hm
    cases p
    · obtain ⟨rfl, rfl⟩ := HFP.out rfl
      have HO := hid (show filesS xs (k + 1) pr parts = [] by unfold filesS; rw [if_neg (fun e => by have := e.1; rw [HTX.out, HFI.out] at this; cases this)]; rw [below_step, HTX.out, HES.out, HEN.out rfl]; rfl)
      have HE0 := hid (HEN.out rfl)
      obtain ⟨W1, hW1⟩ : ∃ W1, W1 = w.alloc (.cells #[] 9) := ⟨_, rfl⟩
      have hal : Below w.heap.size w W1 := by rw [hW1]; exact (Below.refl _ _).alloc (Nat.le_refl _) _
      have hown0 : OwnS W1 w.heap.size (.slice (some ⟨w.heap.size, 0, none⟩) 0 0) [] := by rw [hW1]; exact Own.made _ (Nat.le_refl _)
      go_enter Tryz.func136, Tryz.ntmps136
      go_wp2_with fail
      refine (spec_l4Get_c _ xs pr _ _ (HP.out _ (Below.refl _ _))).mono ?_
      rw [HPR.out, HTT.out]
      rintro e w1 ⟨rfl, rfl⟩
      go_wp2_with fail
      refine (spec_ReadFile_e T _ (Nat.le_trans HTS.out (by omega))).mono ?_
      rw [HFI.out]
      rintro e w1 ⟨rfl, rfl⟩
      go_wp2_with fail
      rw [← hW1]
      refine (spec_ReadFolder_c T _ (Nat.le_trans HTS.out (by omega))).mono ?_
      rw [HFO.out, HES.out]
      rintro e w3 ⟨lv, rfl, o3, b3⟩
      have d3 := bl_then hal b3
      have own3 := hown0.on b3
      obtain ⟨n, hn⟩ : ∃ n, es.length = n := ⟨_, rfl⟩
      obtain ⟨la, lc, rfl, _, _, _⟩ := (Rd.of_own o3).ents hn
      obtain rfl : n = 0 := by rw [← hn, HE0.out]; rfl
      clear hn o3 b3 hal hown0 hW1
      go_wp2
      go_loopw [11, 14] (fun out iv wr => iv = .int .i64 (0 : Nat) ∧ out = .slice (some ⟨w.heap.size, 0, none⟩) 0 0 ∧ wr = w3) (fun _ _ _ => 0)
      case atStart => exact ⟨rfl, rfl, rfl⟩
      case round =>
        obtain ⟨rfl, rfl, rfl⟩ := hrel
        go_wp2
        go_ret
        exact ⟨_, rfl, by rw [HO.out]; exact own3, d3⟩
    cases fi
    · cases fo
      · skip
        have HO := hid (show filesS xs (k + 1) pr parts = [] by unfold filesS; rw [if_neg (fun e => by have := e.1; rw [HTX.out, HFI.out] at this; cases this)]; rw [below_step, HTX.out, HES.out, HEN.out rfl]; rfl)
        have HE0 := hid (HEN.out rfl)
        obtain ⟨W1, hW1⟩ : ∃ W1, W1 = w.alloc (.cells #[] 9) := ⟨_, rfl⟩
        have hal : Below w.heap.size w W1 := by rw [hW1]; exact (Below.refl _ _).alloc (Nat.le_refl _) _
        have hown0 : OwnS W1 w.heap.size (.slice (some ⟨w.heap.size, 0, none⟩) 0 0) [] := by rw [hW1]; exact Own.made _ (Nat.le_refl _)
        go_enter Tryz.func136, Tryz.ntmps136
        go_wp2_with fail
        refine (spec_l4Get_c _ xs pr _ _ (HP.out _ (Below.refl _ _))).mono ?_
        rw [HPR.out, HTT.out]
        rintro e w1 ⟨rfl, rfl⟩
        go_wp2_with fail
        refine (spec_ReadFile_e T _ (Nat.le_trans HTS.out (by omega))).mono ?_
        rw [HFI.out]
        rintro e w1 ⟨rfl, rfl⟩
        go_wp2_with fail
        rw [← hW1]
        refine (spec_ReadFolder_c T _ (Nat.le_trans HTS.out (by omega))).mono ?_
        rw [HFO.out, HES.out]
        rintro e w3 ⟨lv, rfl, o3, b3⟩
        have d3 := bl_then hal b3
        have own3 := hown0.on b3
        obtain ⟨n, hn⟩ : ∃ n, es.length = n := ⟨_, rfl⟩
        obtain ⟨la, lc, rfl, _, _, _⟩ := (Rd.of_own o3).ents hn
        obtain rfl : n = 0 := by rw [← hn, HE0.out]; rfl
        clear hn o3 b3 hal hown0 hW1
        go_wp2
        go_loopw [11, 14] (fun out iv wr => iv = .int .i64 (0 : Nat) ∧ out = .slice (some ⟨w.heap.size, 0, none⟩) 0 0 ∧ wr = w3) (fun _ _ _ => 0)
        case atStart => exact ⟨rfl, rfl, rfl⟩
        case round =>
          obtain ⟨rfl, rfl, rfl⟩ := hrel
          go_wp2
          go_ret
          exact ⟨_, rfl, by rw [HO.out]; exact own3, d3⟩
      · skip
        obtain ⟨W1, hW1⟩ : ∃ W1, W1 = w.alloc (.cells #[] 9) := ⟨_, rfl⟩
        have hal : Below w.heap.size w W1 := by rw [hW1]; exact (Below.refl _ _).alloc (Nat.le_refl _) _
        have hown0 : OwnS W1 w.heap.size (.slice (some ⟨w.heap.size, 0, none⟩) 0 0) [] := by rw [hW1]; exact Own.made _ (Nat.le_refl _)
        go_enter Tryz.func136, Tryz.ntmps136
        go_wp2_with fail
        refine (spec_l4Get_c _ xs pr _ _ (HP.out _ (Below.refl _ _))).mono ?_
        rw [HPR.out, HTT.out]
        rintro e w1 ⟨rfl, rfl⟩
        go_wp2_with fail
        refine (spec_ReadFile_e T _ (Nat.le_trans HTS.out (by omega))).mono ?_
        rw [HFI.out]
        rintro e w1 ⟨rfl, rfl⟩
        go_wp2_with fail
        rw [← hW1]
        refine (spec_ReadFolder_c T _ (Nat.le_trans HTS.out (by omega))).mono ?_
        rw [HFO.out, HES.out]
        rintro e w3 ⟨lv, rfl, o3, b3⟩
        have d3 := bl_then hal b3
        have own3 := hown0.on b3
        have hlt3 := hid o3.lt
        have hpb := hid fun g hg => (hown0.lt g hg).2
        have hsz3 := b3.size
        obtain ⟨n, hn⟩ : ∃ n, es.length = n := ⟨_, rfl⟩
        have HN := hid hn
        have hn3 : n ≤ 3 := by rw [← hn, ← HES.out]; exact entsOf_len _
        obtain ⟨la, lc, rfl, _, _, _⟩ := (Rd.of_own o3).ents hn
        have HB := hid (show filesS xs (k + 1) pr parts = es.flatMap (fileStep xs k parts) by unfold filesS; rw [if_neg (fun e => by have := e.1; rw [HTX.out, HFI.out] at this; cases this), below_step, HTX.out, HES.out])
        have HWD := hid (show ∀ x ∈ es, wordOk (bs x.name) = true from fun x hx => (entOk_iff.1 (ents_all (by rw [← HES.out]; exact entsOf_ok _) hx)).1)
        have hm3 : (m : Int) < 3 := by have := HM.out; omega
        clear hn b3 hal hown0 hW1
        go_wp2
        go_loopw [11, 14] (fun out iv wr => ∃ (ov : Value) (j : Nat) (acc : List ByteArray), ov = out ∧ j ≤ n ∧ iv = .int .i64 j ∧ OwnS wr w.heap.size ov acc ∧ Hid (acc = (es.take j).flatMap (fileStep xs k parts)) ∧ acc.length ≤ 9 * j ∧ OwnE wr W1.heap.size (.slice la n lc) es ∧ Hid (∀ g, ov.ownBlock = some g → g < W1.heap.size ∨ w3.heap.size ≤ g) ∧ Below w.heap.size w wr ∧ w3.heap.size ≤ wr.heap.size) (fun _ iv _ => n - (intOf iv).toNat)
        case atStart => exact ⟨_, 0, [], rfl, Nat.zero_le _, rfl, own3, hid (by simp), by simp, o3, hid fun g hg => .inl (hpb.out g hg), d3, Nat.le_refl _⟩
        case round =>
          obtain ⟨ov, j, acc, rfl, hj, rfl, hown, hacc, hlen, hol, hpb2, hb, hsz⟩ := hrel
          clear o3 own3 d3
          by_cases hjn : j < n
          · obtain ⟨_, _, hv, _, _, hcs⟩ := (Rd.of_own hol).ents HN.out
            simp only [Value.slice.injEq] at hv
            obtain ⟨e1, _, e2⟩ := hv
            subst e1
            subst e2
            obtain ⟨b, o, t, r, rfl, hbl, hx, k0, k1⟩ := hcs j hjn
            have hjn' : (j : Int) < n := by omega
            have HACC := hid (show (es.take (j + 1)).flatMap (fileStep xs k parts) = acc ++ filesS xs k r (parts ++ [t]) by rw [flat_succ _ hx.out, hacc.out, filesS_step])
            have HLE := hid (show (filesS xs k r (parts ++ [t])).length ≤ 9 by rw [filesS_step]; exact step_len xs (by omega) parts _)
            have HAC := hid (show acc.length ≤ 100 by omega)
            have HPS2 := hid (show ∀ x ∈ parts ++ [t], x.size ≤ 1000 from fun x hx' => by
              rcases List.mem_append.1 hx' with h | h
              · exact HPS.out x h
              · simp only [List.mem_singleton] at h
                have h2 := (word_len (HWD.out _ (List.mem_of_getElem? hx.out))).2
                rw [bs_len] at h2
                rw [h]
                simp only at h2
                omega)
            go_wp2
            refine drew_out wr ⟨0, rfl⟩ ?_
            rintro W0 ⟨z00, hW0⟩
            have hw0 : Below wr.heap.size wr W0 := by rw [hW0]; exact bl_drewN (Below.refl _ _) z00
            have d0 := bl_then hb hw0
            have HOW := hid (hown.on hw0)
            have HOL := hid (show ∀ q, ov.ownBlock = some q → q < W0.heap.size from fun q hq => (HOW.out.lt q hq).2)
            have HOB := hid (show ∀ q, ov.ownBlock = some q → w.heap.size ≤ q from fun q hq => (HOW.out.lt q hq).1)
            have HBW := hid d0.size
            have HLW := hid (hol.on hw0)
            have hbl2 : b < W0.heap.size := Nat.lt_of_lt_of_le hbl hw0.size
            have hbo : ¬ (ov.ownBlock = some b) := fun e => by
              have h5 := hlt3.out b rfl
              rcases hpb2.out b e with h6 | h6
              · omega
              · omega
            have hec0 := (hw0.cell (p := ⟨b, o + j * 2, none⟩) hbl).trans k0
            have hec1 := (hw0.cell (p := ⟨b, o + j * 2 + 1, none⟩) hbl).trans k1
            have hsz0 := Nat.le_trans hsz hw0.size
            have hsz2 : True := trivial
            clear hW0 k0 k1 hown hol hb hw0 hcs
            refine wp_region_inv3i rfl (by kernel_rfl) (by kernel_rfl) (by kernel_rfl) (by kernel_rfl) (by simp) (LJ W0 w.heap.size ov acc) (fun j w' w'' => lfS W0 ov j w' w'') (fact [isV ov, isV v, isV (.slice (some ⟨b, o, none⟩) n lc), isV (.int .i64 j), isV (.pointer (some ⟨b, o + j * 2, none⟩)), isV (.pointer (some ⟨b, o + j * 2 + 1, none⟩)), isV (.int .i64 r), isEmpS W0.heap.size, isV (.slice pa m pc), isOwnS W0.heap.size ([] ++ parts), isV (.slice (some ⟨b, o, none⟩) n lc), isV (.int .i64 j), isV (.pointer (some ⟨b, o + j * 2, none⟩)), isV (.pointer (some ⟨b, o + j * 2, none⟩)), isV (.string t), isLitS W0.heap.size t, isOwnS W0.heap.size ([] ++ parts ++ [t]), isOwnS W0.heap.size (filesS xs k r (parts ++ [t])), isResS W0 w.heap.size ov (acc ++ (filesS xs k r (parts ++ [t]))), isResS W0 w.heap.size ov (acc ++ (filesS xs k r (parts ++ [t])))]) lfCons ⟨Frm.of_below (bl_drewN (Below.refl _ _) 1), fun _ => HOW.out.drewN 1⟩ ?hF ?grd ?oo ?cg ?fin
            case hF =>
              intro j i v w' w'' hS hc hne hwt hdp hf
              have hi : i < 20 ∨ 20 ≤ i := by omega
              rcases hi with hi | hi
              · obtain rfl | rfl | rfl | rfl | rfl | rfl | rfl | rfl | rfl | rfl | rfl | rfl | rfl | rfl | rfl | rfl | rfl | rfl | rfl | rfl : i = 0 ∨ i = 1 ∨ i = 2 ∨ i = 3 ∨ i = 4 ∨ i = 5 ∨ i = 6 ∨ i = 7 ∨ i = 8 ∨ i = 9 ∨ i = 10 ∨ i = 11 ∨ i = 12 ∨ i = 13 ∨ i = 14 ∨ i = 15 ∨ i = 16 ∨ i = 17 ∨ i = 18 ∨ i = 19 := by omega
                · exact hf
                · exact hf
                · exact hf
                · exact hf
                · exact hf
                · exact hf
                · exact hf
                · rcases hS with rfl | hb9 | ⟨rfl, q, hq, hh, hg⟩ | ⟨rfl, row, hq, hg⟩ | ⟨rfl, hg⟩
                  · exact hf
                  · obtain ⟨b0, h1, h2, h3, h4⟩ := hf; exact ⟨b0, h1, h2, (hb9.block b0 (Array.getElem?_eq_some_iff.1 h3).1).trans h3, h4.on hb9⟩
                  · simp [lfCons] at hc
                  · have h9 := hdp _ rfl ⟨9, .data⟩ (by simp) rfl; simp [lfCons] at h9
                  · obtain ⟨b0, h1, h2, h3, h4⟩ := hf; exact ⟨b0, h1, h2, (hg.block b0 (Array.getElem?_eq_some_iff.1 h3).1 (fun e => by have := HOL.out b0 e.symm; omega)).trans h3, h4.kept hg (own_ne_out HOL.out h4)⟩
                · exact hf
                · rcases hS with rfl | hb9 | ⟨rfl, q, hq, hh, hg⟩ | ⟨rfl, row, hq, hg⟩ | ⟨rfl, hg⟩
                  · exact hf
                  · exact Own.on hf hb9
                  · exact absurd rfl hne
                  · simp [lfCons] at hc
                  · exact Own.kept hf hg (own_ne_out HOL.out hf)
                · exact hf
                · exact hf
                · exact hf
                · exact hf
                · exact hf
                · rcases hS with rfl | hb9 | ⟨rfl, q, hq, hh, hg⟩ | ⟨rfl, row, hq, hg⟩ | ⟨rfl, hg⟩
                  · exact hf
                  · obtain ⟨b0, h1, h2, h3⟩ := hf; exact ⟨b0, h1, h2, (hb9.block b0 (Array.getElem?_eq_some_iff.1 h3).1).trans h3⟩
                  · obtain ⟨b0, h1, h2, h3⟩ := hf; exact ⟨b0, h1, h2, (hg.block b0 (Array.getElem?_eq_some_iff.1 h3).1 (fun e => by have := Option.some.inj e; subst this; rw [hh] at h3; simp at h3)).trans h3⟩
                  · simp [lfCons] at hc
                  · obtain ⟨b0, h1, h2, h3⟩ := hf; exact ⟨b0, h1, h2, (hg.block b0 (Array.getElem?_eq_some_iff.1 h3).1 (fun e => by have := HOL.out b0 e.symm; omega)).trans h3⟩
                · rcases hS with rfl | hb9 | ⟨rfl, q, hq, hh, hg⟩ | ⟨rfl, row, hq, hg⟩ | ⟨rfl, hg⟩
                  · exact hf
                  · exact Own.on hf hb9
                  · exact absurd (hwt.symm.trans (c := true) (by kernel_rfl)) (by decide)
                  · exact absurd rfl hne
                  · exact Own.kept hf hg (own_ne_out HOL.out hf)
                · rcases hS with rfl | hb9 | ⟨rfl, q, hq, hh, hg⟩ | ⟨rfl, row, hq, hg⟩ | ⟨rfl, hg⟩
                  · exact hf
                  · exact Own.on hf hb9
                  · exact absurd (hwt.symm.trans (c := true) (by kernel_rfl)) (by decide)
                  · exact absurd (hwt.symm.trans (c := true) (by kernel_rfl)) (by decide)
                  · exact Own.kept hf hg (own_ne_out HOL.out hf)
                · rcases hS with rfl | hb9 | ⟨rfl, q, hq, hh, hg⟩ | ⟨rfl, row, hq, hg⟩ | ⟨rfl, hg⟩
                  · exact hf
                  · exact ⟨Own.on hf.1 hb9, hf.2⟩
                  · exact absurd (hwt.symm.trans (c := true) (by kernel_rfl)) (by decide)
                  · exact absurd (hwt.symm.trans (c := true) (by kernel_rfl)) (by decide)
                  · exact absurd rfl hne
                · rcases hS with rfl | hb9 | ⟨rfl, q, hq, hh, hg⟩ | ⟨rfl, row, hq, hg⟩ | ⟨rfl, hg⟩
                  · exact hf
                  · exact ⟨Own.on hf.1 hb9, hf.2⟩
                  · exact absurd (hwt.symm.trans (c := true) (by kernel_rfl)) (by decide)
                  · exact absurd (hwt.symm.trans (c := true) (by kernel_rfl)) (by decide)
                  · exact absurd (hwt.symm.trans (c := true) (by kernel_rfl)) (by decide)
              · unfold fact at *; rw [List.getD_eq_getElem?_getD, List.getElem?_eq_none (by simpa using hi)]; trivial
            case grd =>
              intro i oo d bb hi hg v w' hf
              obtain ⟨hlt1, rfl⟩ := Array.getElem?_eq_some_iff.1 hi
              have hlt' : i < 20 := hlt1
              clear hi
              obtain rfl | rfl | rfl | rfl | rfl | rfl | rfl | rfl | rfl | rfl | rfl | rfl | rfl | rfl | rfl | rfl | rfl | rfl | rfl | rfl : i = 0 ∨ i = 1 ∨ i = 2 ∨ i = 3 ∨ i = 4 ∨ i = 5 ∨ i = 6 ∨ i = 7 ∨ i = 8 ∨ i = 9 ∨ i = 10 ∨ i = 11 ∨ i = 12 ∨ i = 13 ∨ i = 14 ∨ i = 15 ∨ i = 16 ∨ i = 17 ∨ i = 18 ∨ i = 19 := by omega
              all_goals simp at hg
            case cg =>
              intro i oo d bb hi hg j
              obtain ⟨hlt1, rfl⟩ := Array.getElem?_eq_some_iff.1 hi
              have hlt' : i < 20 := hlt1
              clear hi
              obtain rfl | rfl | rfl | rfl | rfl | rfl | rfl | rfl | rfl | rfl | rfl | rfl | rfl | rfl | rfl | rfl | rfl | rfl | rfl | rfl : i = 0 ∨ i = 1 ∨ i = 2 ∨ i = 3 ∨ i = 4 ∨ i = 5 ∨ i = 6 ∨ i = 7 ∨ i = 8 ∨ i = 9 ∨ i = 10 ∨ i = 11 ∨ i = 12 ∨ i = 13 ∨ i = 14 ∨ i = 15 ∨ i = 16 ∨ i = 17 ∨ i = 18 ∨ i = 19 := by omega
              all_goals simp at hg
            case oo =>
              intro i oo hi L qn a' wk hnn hL hj hb' hd
              obtain ⟨hlt1, rfl⟩ := Array.getElem?_eq_some_iff.1 hi
              have hlt' : i < 20 := hlt1
              clear hi
              obtain rfl | rfl | rfl | rfl | rfl | rfl | rfl | rfl | rfl | rfl | rfl | rfl | rfl | rfl | rfl | rfl | rfl | rfl | rfl | rfl : i = 0 ∨ i = 1 ∨ i = 2 ∨ i = 3 ∨ i = 4 ∨ i = 5 ∨ i = 6 ∨ i = 7 ∨ i = 8 ∨ i = 9 ∨ i = 10 ∨ i = 11 ∨ i = 12 ∨ i = 13 ∨ i = 14 ∨ i = 15 ∨ i = 16 ∨ i = 17 ∨ i = 18 ∨ i = 19 := by omega
              · have b11 : a'.eval (.tmp 11) = ov := hb' 11 (by kernel_rfl); have c11 := ev_get b11
                exact iv_val (v := ov) (by simp [execOp, b11]) ⟨_, rfl, hj.step (by decide), .inl rfl, rfl⟩
              · have b0 : a'.eval (.tmp 0) = v := hb' 0 (by kernel_rfl); have c0 := ev_get b0
                exact iv_val (v := v) (by simp [execOp, b0]) ⟨_, rfl, hj.step (by decide), .inl rfl, rfl⟩
              · have b12 : a'.eval (.tmp 12) = .slice (some ⟨b, o, none⟩) n lc := hb' 12 (by kernel_rfl); have c12 := ev_get b12
                exact iv_val (v := .slice (some ⟨b, o, none⟩) n lc) (by simp [execOp, b12]) ⟨_, rfl, hj.step (by decide), .inl rfl, rfl⟩
              · have b14 : a'.eval (.tmp 14) = .int .i64 j := hb' 14 (by kernel_rfl); have c14 := ev_get b14
                exact iv_val (v := .int .i64 j) (by simp [execOp, b14]) ⟨_, rfl, hj.step (by decide), .inl rfl, rfl⟩
              · have v2 : a'.eval (.tmp 63) = .slice (some ⟨b, o, none⟩) n lc := hd ⟨2, .data⟩ (by simp) rfl (by intro j _ hc; revert hc; unfold lfCons; simp; try omega); have u2 := ev_get v2
                have v3 : a'.eval (.tmp 64) = .int .i64 j := hd ⟨3, .data⟩ (by simp) rfl (by intro j _ hc; revert hc; unfold lfCons; simp; try omega); have u3 := ev_get v3
                exact iv_val (v := .pointer (some ⟨b, o + j * 2, none⟩)) (by simp [execOp, u2, u3, hjn', hsz2, go_sem, Result.andThen]) ⟨_, rfl, hj.step (by decide), .inl rfl, rfl⟩
              · have v4 : a'.eval (.tmp 65) = .pointer (some ⟨b, o + j * 2, none⟩) := hd ⟨4, .data⟩ (by simp) rfl (by intro j _ hc; revert hc; unfold lfCons; simp; try omega); have u4 := ev_get v4
                exact iv_val (v := .pointer (some ⟨b, o + j * 2 + 1, none⟩)) (by simp [execOp, u4, go_sem, Result.andThen]) ⟨_, rfl, hj.step (by decide), .inl rfl, rfl⟩
              · have v5 : a'.eval (.tmp 66) = .pointer (some ⟨b, o + j * 2 + 1, none⟩) := hd ⟨5, .data⟩ (by simp) rfl (by intro j _ hc; revert hc; unfold lfCons; simp; try omega); have u5 := ev_get v5
                have x1 := (World.cell?_of_block (a := ⟨b, o + j * 2 + 1, none⟩) (hj.1.block b hbl2 hbo)).trans hec1
                exact iv_val (v := .int .i64 r) (by simp [execOp, u5, x1, go_sem, Result.andThen]) ⟨_, rfl, hj.step (by decide), .inl rfl, rfl⟩
              · have hb7 := (Below.refl wk.heap.size wk).alloc (Nat.le_refl _) (.cells #[] 9)
                exact iv_val (v := .slice (some ⟨wk.heap.size, 0, none⟩) 0 0) (w' := wk.alloc (.cells #[] 9)) (by simp [execOp, go_sem, Result.andThen]) ⟨_, rfl, hj.below hb7 (by decide), .inr (.inl hb7), (show isEmpS _ _ _ from ⟨_, rfl, hj.1.size, heap_alloc_new _ _, Own.made _ hj.1.size⟩)⟩
              · have b2 : a'.eval (.tmp 2) = .slice pa m pc := hb' 2 (by kernel_rfl); have c2 := ev_get b2
                exact iv_val (v := .slice pa m pc) (by simp [execOp, b2]) ⟨_, rfl, hj.step (by decide), .inl rfl, rfl⟩
              · have e0 : isEmpS W0.heap.size (a'.eval (.tmp 68)) wk := hd ⟨7, .data⟩ (by simp) rfl (by intro j _ hc; revert hc; unfold lfCons; simp; try omega)
                obtain ⟨b0, v0, hb0, hh0, o0⟩ := e0
                have v8 : a'.eval (.tmp 69) = .slice pa m pc := hd ⟨8, .data⟩ (by simp) rfl (by intro j _ hc; revert hc; unfold lfCons; simp; try omega); have u8 := ev_get v8
                obtain ⟨i0, hi0, hz0, hz1, hz2⟩ := info_parts info_string
                refine wp_cat (enc := encS) wk (.tmp 68) (.tmp 69) 28 rfl W0.heap.size 9 i0 _ 1 16 Tryz.underlying28 hi0 hz0 hz1 hz2 rfl (by decide) (a'.eval (.tmp 68)) (.slice pa m pc) [] parts rfl v8 o0 _ (HPW.out _ (d0.trans (hj.1.below HOB.out HBW.out))) (by simp [Value.oneCell']) (by have := HPL.out; have := HLE.out; have := HAC.out; simp <;> omega) (by decide) hj.1.size ?_
                intro v' w' ho hg hg'
                rw [v0] at hg
                exact ⟨_, rfl, hj.grown HOL.out hg (fun q hq => by simp [Value.ownBlock] at hq; omega) (by decide), .inr (.inr (.inl ⟨rfl, b0, hb0, hh0, hg⟩)), (show isOwnS _ _ _ _ from ho)⟩
              · have b12 : a'.eval (.tmp 12) = .slice (some ⟨b, o, none⟩) n lc := hb' 12 (by kernel_rfl); have c12 := ev_get b12
                exact iv_val (v := .slice (some ⟨b, o, none⟩) n lc) (by simp [execOp, b12]) ⟨_, rfl, hj.step (by decide), .inl rfl, rfl⟩
              · have b14 : a'.eval (.tmp 14) = .int .i64 j := hb' 14 (by kernel_rfl); have c14 := ev_get b14
                exact iv_val (v := .int .i64 j) (by simp [execOp, b14]) ⟨_, rfl, hj.step (by decide), .inl rfl, rfl⟩
              · have v10 : a'.eval (.tmp 71) = .slice (some ⟨b, o, none⟩) n lc := hd ⟨10, .data⟩ (by simp) rfl (by intro j _ hc; revert hc; unfold lfCons; simp; try omega); have u10 := ev_get v10
                have v11 : a'.eval (.tmp 72) = .int .i64 j := hd ⟨11, .data⟩ (by simp) rfl (by intro j _ hc; revert hc; unfold lfCons; simp; try omega); have u11 := ev_get v11
                exact iv_val (v := .pointer (some ⟨b, o + j * 2, none⟩)) (by simp [execOp, u10, u11, hjn', hsz2, go_sem, Result.andThen]) ⟨_, rfl, hj.step (by decide), .inl rfl, rfl⟩
              · have v12 : a'.eval (.tmp 73) = .pointer (some ⟨b, o + j * 2, none⟩) := hd ⟨12, .data⟩ (by simp) rfl (by intro j _ hc; revert hc; unfold lfCons; simp; try omega); have u12 := ev_get v12
                exact iv_val (v := .pointer (some ⟨b, o + j * 2, none⟩)) (by simp [execOp, u12, go_sem, Result.andThen]) ⟨_, rfl, hj.step (by decide), .inl rfl, rfl⟩
              · have v13 : a'.eval (.tmp 74) = .pointer (some ⟨b, o + j * 2, none⟩) := hd ⟨13, .data⟩ (by simp) rfl (by intro j _ hc; revert hc; unfold lfCons; simp; try omega); have u13 := ev_get v13
                have x0 := (World.cell?_of_block (a := ⟨b, o + j * 2, none⟩) (hj.1.block b hbl2 hbo)).trans hec0
                exact iv_val (v := .string t) (by simp [execOp, u13, x0, go_sem, Result.andThen]) ⟨_, rfl, hj.step (by decide), .inl rfl, rfl⟩
              · have v14 : a'.eval (.tmp 75) = .string t := hd ⟨14, .data⟩ (by simp) rfl (by intro j _ hc; revert hc; unfold lfCons; simp; try omega); have u14 := ev_get v14
                have hb7 := (Below.refl wk.heap.size wk).alloc (Nat.le_refl _) (.cells #[.string t] 9)
                exact iv_val (v := .slice (some ⟨wk.heap.size, 0, none⟩) 1 1) (w' := wk.alloc (.cells #[.string t] 9)) (by simp [execOp, u14, go_sem, Result.andThen]) ⟨_, rfl, hj.below hb7 (by decide), .inr (.inl hb7), (show isLitS W0.heap.size t _ _ from ⟨_, rfl, hj.1.size, heap_alloc_new _ _⟩)⟩
              · have e9 : isOwnS W0.heap.size ([] ++ parts) (a'.eval (.tmp 70)) wk := hd ⟨9, .data⟩ (by simp) rfl (by intro j _ hc; revert hc; unfold lfCons; simp; try omega)
                have e15 : isLitS W0.heap.size t (a'.eval (.tmp 76)) wk := hd ⟨15, .data⟩ (by simp) rfl (by intro j _ hc; revert hc; unfold lfCons; simp; try omega)
                obtain ⟨b15, v15, hb15, hh15⟩ := e15
                obtain ⟨i0, hi0, hz0, hz1, hz2⟩ := info_parts info_string
                refine wp_cat (enc := encS) wk (.tmp 70) (.tmp 76) 28 rfl W0.heap.size 9 i0 _ 1 16 Tryz.underlying28 hi0 hz0 hz1 hz2 rfl (by decide) (a'.eval (.tmp 70)) (.slice (some ⟨b15, 0, none⟩) 1 1) ([] ++ parts) [t] rfl v15 e9 _ (lit_rdS hh15) (by simp [Value.oneCell']) (by have := HPL.out; have := HLE.out; have := HAC.out; simp <;> omega) (by decide) hj.1.size ?_
                intro v' w' ho hg hg'
                exact ⟨_, rfl, hj.grown HOL.out hg (fun q hq => (Own.lt e9 q hq).1) (by decide), .inr (.inr (.inr (.inl ⟨rfl, _, (fun q hq => (Own.lt e9 q hq).1), hg⟩))), (show isOwnS _ _ _ _ from ho)⟩
              · have v1 : a'.eval (.tmp 62) = v := hd ⟨1, .data⟩ (by simp) rfl (by intro j _ hc; revert hc; unfold lfCons; simp; try omega); have u1 := ev_get v1
                have v6 : a'.eval (.tmp 67) = .int .i64 r := hd ⟨6, .data⟩ (by simp) rfl (by intro j _ hc; revert hc; unfold lfCons; simp; try omega); have u6 := ev_get v6
                have e16 : isOwnS W0.heap.size ([] ++ parts ++ [t]) (a'.eval (.tmp 77)) wk := hd ⟨16, .data⟩ (by simp) rfl (by intro j _ hc; revert hc; unfold lfCons; simp; try omega)
                have r16 : Strs wk wk.heap.size (a'.eval (.tmp 77)) (parts ++ [t]) := by simpa using Rd.of_own e16
                obtain ⟨pv2, hpv2⟩ : ∃ pv2, a'.eval (.tmp 77) = pv2 := ⟨_, rfl⟩
                rw [hpv2] at r16
                have u16 := ev_get hpv2
                have dk := d0.trans (hj.1.below HOB.out HBW.out)
                refine iv_enter (f := 136) (args := #[v, .int .i64 r, pv2]) (by simp [execOp, u1, u6, u16, go_sem]) ?_
                refine (ih _ _ r (parts ++ [t]) wk (by simp; omega) (HP.out _ dk) r16 HPS2.out).mono ?_
                rintro e9 w9 ⟨v9, rfl, o9, b9⟩
                exact ⟨_, rfl, _, rfl, hj.below b9 (by decide), .inr (.inl b9), (show isOwnS W0.heap.size (filesS xs k r (parts ++ [t])) _ w9 from o9.less hj.1.size)⟩
              · have v0 : a'.eval (.tmp 61) = ov := hd ⟨0, .data⟩ (by simp) rfl (by intro j _ hc; revert hc; unfold lfCons; simp; try omega); have u0 := ev_get v0
                have o0 := hj.2 hL
                have e17 : isOwnS W0.heap.size (filesS xs k r (parts ++ [t])) (a'.eval (.tmp 78)) wk := hd ⟨17, .data⟩ (by simp) rfl (by intro j _ hc; revert hc; unfold lfCons; simp; try omega)
                obtain ⟨i0, hi0, hz0, hz1, hz2⟩ := info_parts info_string
                refine wp_cat (enc := encS) wk (.tmp 61) (.tmp 78) 28 rfl w.heap.size 9 i0 _ 1 16 Tryz.underlying28 hi0 hz0 hz1 hz2 rfl (by decide) (ov) (a'.eval (.tmp 78)) acc (filesS xs k r (parts ++ [t])) v0 rfl o0 _ (Rd.of_own e17) (by simp [Value.oneCell']) (by have := HPL.out; have := HLE.out; have := HAC.out; simp <;> omega) (by decide) (Nat.le_trans HBW.out hj.1.size) ?_
                intro v' w' ho hg hg'
                exact ⟨_, rfl, hj.own hg, .inr (.inr (.inr (.inr ⟨rfl, hg⟩))), (show isResS W0 w.heap.size ov (acc ++ (filesS xs k r (parts ++ [t]))) _ _ from ⟨ho, fun g hg1 => (hg' g hg1).imp id (fun e => by rw [e]; exact hj.1.size)⟩)⟩
              · have e18 : isResS W0 w.heap.size ov (acc ++ (filesS xs k r (parts ++ [t]))) (a'.eval (.tmp 79)) wk := hd ⟨18, .data⟩ (by simp) rfl (by intro j _ hc; revert hc; unfold lfCons; simp; try omega)
                exact iv_val (v := a'.eval (.tmp 79)) (by simp [execOp]) ⟨_, rfl, hj.step (by decide), .inl rfl, e18⟩
            case fin =>
              intro tm w9 hLL hF
              obtain ⟨LL, _, hj⟩ := hLL
              have o15 : isResS W0 w.heap.size ov (acc ++ (filesS xs k r (parts ++ [t]))) (tm.getD 11 undef) w9 := hF 19 _ rfl (fun j => by unfold lfCons; simp)
              clear hF
              simp only [refillL, List.setIfInBounds_toArray, List.set_cons_succ, List.set_cons_zero]
              obtain ⟨wv, hwv⟩ : ∃ wv, tm.getD 11 undef = wv := ⟨_, rfl⟩
              rw [hwv] at o15 ⊢
              clear hwv
              have O15 := hid o15.1
              have d9 := d0.trans (hj.1.below HOB.out HBW.out)
              have L9 := hid (HLW.out.frm hj.1 (fun g hg e => hbo ((Option.some.inj hg : b = g).symm ▸ e)))
              have NE9 := hid (show ∀ g, wv.ownBlock = some g → g < W1.heap.size ∨ w3.heap.size ≤ g from fun g hg => (o15.2 g hg).elim (hpb2.out g) (fun h => .inr (Nat.le_trans hsz0 h)))
              have hsz9 := Nat.le_trans hsz0 hj.1.size
              clear o15 hj
              go_wp2
              go_roundw
              case rel => exact ⟨_, j + 1, _, rfl, by omega, by go_num, O15.out, HACC.out.symm, (by simp only [List.length_append]; have := HLE.out; omega), L9.out, NE9, d9, hsz9⟩
              case measure => simp [intOf]; omega
          · have HA := hid (show acc = filesS xs (k + 1) pr parts by rw [HB.out, hacc.out, take_all HN.out (show n ≤ j by omega)])
            go_wp2
            go_ret
            exact ⟨_, rfl, by rw [← HA.out]; exact hown, hb⟩
    · obtain rfl : fo = false := HFF.out rfl
      by_cases hm0 : m = 0
      · subst hm0
        have HO := hid (show filesS xs (k + 1) pr parts = [] by unfold filesS; rw [if_neg (fun e => by have := HM.out; exact e.2 (List.eq_nil_of_length_eq_zero this))]; rw [below_step, HTX.out, HES.out, HEN.out rfl]; rfl)
        have HE0 := hid (HEN.out rfl)
        obtain ⟨W1, hW1⟩ : ∃ W1, W1 = w.alloc (.cells #[] 9) := ⟨_, rfl⟩
        have hal : Below w.heap.size w W1 := by rw [hW1]; exact (Below.refl _ _).alloc (Nat.le_refl _) _
        have hown0 : OwnS W1 w.heap.size (.slice (some ⟨w.heap.size, 0, none⟩) 0 0) [] := by rw [hW1]; exact Own.made _ (Nat.le_refl _)
        go_enter Tryz.func136, Tryz.ntmps136
        go_wp2_with fail
        refine (spec_l4Get_c _ xs pr _ _ (HP.out _ (Below.refl _ _))).mono ?_
        rw [HPR.out, HTT.out]
        rintro e w1 ⟨rfl, rfl⟩
        go_wp2_with fail
        refine (spec_ReadFile_e T _ (Nat.le_trans HTS.out (by omega))).mono ?_
        rw [HFI.out]
        rintro e w1 ⟨rfl, rfl⟩
        go_wp2_with fail
        rw [← hW1]
        refine (spec_ReadFolder_c T _ (Nat.le_trans HTS.out (by omega))).mono ?_
        rw [HFO.out, HES.out]
        rintro e w3 ⟨lv, rfl, o3, b3⟩
        have d3 := bl_then hal b3
        have own3 := hown0.on b3
        obtain ⟨n, hn⟩ : ∃ n, es.length = n := ⟨_, rfl⟩
        obtain ⟨la, lc, rfl, _, _, _⟩ := (Rd.of_own o3).ents hn
        obtain rfl : n = 0 := by rw [← hn, HE0.out]; rfl
        clear hn o3 b3 hal hown0 hW1
        go_wp2
        go_loopw [11, 14] (fun out iv wr => iv = .int .i64 (0 : Nat) ∧ out = .slice (some ⟨w.heap.size, 0, none⟩) 0 0 ∧ wr = w3) (fun _ _ _ => 0)
        case atStart => exact ⟨rfl, rfl, rfl⟩
        case round =>
          obtain ⟨rfl, rfl, rfl⟩ := hrel
          go_wp2
          go_ret
          exact ⟨_, rfl, by rw [HO.out]; exact own3, d3⟩
      · skip
        have HO := hid (show filesS xs (k + 1) pr parts = [strL (joinP (parts.map bs))] by unfold filesS; rw [if_pos ⟨by rw [HTX.out]; exact HFI.out, fun e => by have := HM.out; rw [e] at this; simp at this; omega⟩])
        have hmp : (0 : Int) < m := by omega
        go_enter Tryz.func136, Tryz.ntmps136
        go_wp2_with fail
        refine (spec_l4Get_c _ xs pr _ _ (HP.out _ (Below.refl _ _))).mono ?_
        rw [HPR.out, HTT.out]
        rintro e w1 ⟨rfl, rfl⟩
        go_wp2_with fail
        refine (spec_ReadFile_e T _ (Nat.le_trans HTS.out (by omega))).mono ?_
        rw [HFI.out]
        rintro e w1 ⟨rfl, rfl⟩
        go_wp2_with fail
        refine (spec_JoinPath_c _ parts _ HPP.out HPS.out HPL.out).mono ?_
        rintro e w2 ⟨rfl, rfl⟩
        go_wp2
        go_ret
        exact ⟨_, rfl, by rw [HO.out]; exact Own.lit _ (Nat.le_refl _) [_] _ 1 rfl rfl rfl (by decide), (Below.refl _ _).alloc (Nat.le_refl _) _⟩

set_option maxHeartbeats 2000000 in
set_option maxRecDepth 100000 in
theorem spec_AllFiles_c (v : Value) (xs : List Pc) (root : Int) (w : World) (h : Pcs w w.heap.size v xs) (hx0 : ∀ x ∈ xs, x.text.size ≤ 1048576) (hl0 : xs.length ≤ 1048576) :
    Calls Tryz.prog 84 #[v, .int .i64 root] w fun e w' => ∃ v', e = .returned v' ∧ OwnS w' w.heap.size v' (allFiles xs root) ∧ Below w.heap.size w w' := by
  have HH := hid h
  have HX := hid hx0
  have HL := hid hl0
  obtain ⟨k, hk⟩ : ∃ k, storeOk xs = k := ⟨_, rfl⟩
  have HK := hid hk
  clear h hx0 hl0 hk
  cases k
  · have HO := hid (allFiles_off (root := root) HK.out)
    go_enter Tryz.func84, Tryz.ntmps84
    go_wp2_with fail
    refine (spec_StoreValid_c _ xs _ _ HH.out HX.out HL.out).mono ?_
    rw [HK.out]
    rintro e w2 ⟨rfl, z, rfl⟩
    go_wp2
    go_ret
    exact ⟨_, rfl, by rw [HO.out]; exact Own.made _ (Nat.le_refl _), ((bl_drewN (Below.refl _ _) z).alloc (Nat.le_refl _) _)⟩
  · have HO := hid (show filesS xs 3 root [] = allFiles xs root by rw [allFiles_on HK.out]; unfold filesS; rw [if_neg (by simp)])
    go_enter Tryz.func84, Tryz.ntmps84
    go_wp2_with fail
    refine (spec_StoreValid_c _ xs _ _ HH.out HX.out HL.out).mono ?_
    rw [HK.out]
    rintro e w2 ⟨rfl, z, rfl⟩
    obtain ⟨W1, hW1⟩ : ∃ W1, W1 = (w.drewN z).alloc (.cells #[] 9) := ⟨_, rfl⟩
    have hal : Below w.heap.size w W1 := by rw [hW1]; exact (bl_drewN (Below.refl _ _) z).alloc (Nat.le_refl _) _
    have hown0 : OwnS W1 w.heap.size (.slice (some ⟨w.heap.size, 0, none⟩) 0 0) [] := by rw [hW1]; exact Own.made (w.drewN z) (Nat.le_refl _)
    go_wp2_with fail
    first | rw [← hW1] | skip
    refine (spec_l11Files_c xs HK.out 3 _ _ root [] _ rfl (HH.out.on hal) (Rd.of_own hown0) (by simp)).mono ?_
    rintro e w3 ⟨rv, rfl, o3, b3⟩
    have d3 := bl_then hal b3
    have s3 := hal.size
    go_wp2
    go_ret
    exact ⟨_, rfl, by rw [← HO.out]; exact o3.less s3, d3⟩

end Go.Proofs.YtachfmlfmpaddaaGreatDoor
