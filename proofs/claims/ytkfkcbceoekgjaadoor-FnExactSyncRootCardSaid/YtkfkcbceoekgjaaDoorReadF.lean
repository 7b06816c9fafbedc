/- Walks: reading folders, the program's way. -/
import Derived.Test.YtkfkcbceoekgjaaDoorFold
import Derived.Test.YtkfkcbceoekgjaaDoorCut
namespace Go.Proofs.YtkfkcbceoekgjaaDoor
open Go.RowKit

theorem info_ent : (Tryd.prog.info? 45).map (fun i => (i.zero, i.size, i.bytes)) = some (some (.agg #[.string ByteArray.empty, .int .i64 0]), 2, 24) := by kernel_rfl
theorem push_ent {ops : Array Oper} {rest : List Oper} {o : Oper} {a : Act} {Q : Exit → Act → World → Prop} {w0 wr : World} (hgd : o.guard = none) (s x : Operand) (ho : o.op = .call { callee := .builtin .append, args := #[s, x], argTypes := #[40, 40] }) (B B0 : Nat) (v : Value) (acc : List Ent) (y : Ent)
    (hown : OwnE wr B v acc) (hb : Below B0 w0 wr) (hB : B ≤ wr.heap.size) (hB0 : B0 ≤ B) (hs : a.eval s = v) (hx : a.eval x = .slice (some ⟨wr.heap.size, 0, none⟩) 1 1) (hn : acc.length < 1099511627775)
    (h : ∀ v' w', OwnE w' B v' (acc ++ [y]) → Below B0 w0 w' → B ≤ w'.heap.size → wr.grownBy w' v.ownBlock ∧ (∀ g, v'.ownBlock = some g → v.ownBlock = some g ∨ wr.heap.size ≤ g) → wpList Tryd.prog ops Q rest (a.put o.dst v') w') :
    wpList Tryd.prog ops Q (o :: rest) a (wr.alloc (.cells #[.string y.name, .int .i64 y.print] 45)) := by
  obtain ⟨i0, hi, hz0, hz1, hz2⟩ := info_parts info_ent
  exact wpList_push (enc := encE) hgd s x 40 ho B B0 45 i0 _ 2 24 Tryd.underlying40 hi hz0 hz1 hz2 rfl (by decide) v acc y hown hb hB hB0 hs hx rfl (by simp [Value.oneCell']) hn (by decide) h

def sizeOfV : Value → Nat
  | .string s => s.size
  | _ => 0
theorem ents_cut {e : Ent} {r : List Ent} {A R2 : List UInt8} (he : entOk e = true) (h : entsText (e :: r) = A ++ 59 :: R2) (hA : 59 ∉ A) : A = bs e.name ++ 61 :: hexT e.print ∧ R2 = entsText r := by
  have h1 : entsText (e :: r) = (bs e.name ++ 61 :: hexT e.print) ++ 59 :: entsText r := by simp [entsText, entText]
  rw [h1] at h
  have h2 : (59 : UInt8) ∉ bs e.name ++ 61 :: hexT e.print := by
    have ha := (entText_cut he).2
    have hw := (entOk_iff.1 he).1
    intro hm
    rcases List.mem_append.1 hm with h | h
    · exact (wordOk_ch hw h).2 rfl
    · rcases List.mem_cons.1 h with h | h
      · cases h
      · exact ha h
  obtain ⟨e1, e2⟩ := cut_at _ _ _ _ _ h2 hA h
  exact ⟨e1.symm, e2.symm⟩
/-- What stands of the entries, if the text is a folder's. -/
def FoldInv (l : List UInt8) (acc : List Ent) (R : List UInt8) : Prop := ∀ es, entsOk es = true → folderText es = l → ∃ todo, es = acc ++ todo ∧ R = entsText todo
theorem inv_start {l R : List UInt8} (h : l = 100 :: R) : FoldInv l [] R := by
  intro es ho ht
  rw [folder_on ho, h] at ht
  exact ⟨es, rfl, by simpa using ht.symm⟩
theorem inv_no59 {l R : List UInt8} {acc : List Ent} (hi : FoldInv l acc R) (hR : R ≠ []) (h : 59 ∉ R) : readFolder l = none := by
  refine readFolder_no (fun es ho ht => ?_)
  obtain ⟨todo, he, hr⟩ := hi es ho ht
  cases todo with
  | nil => exact hR hr
  | cons e r => exact h (by rw [hr]; simp [entsText, entText])
theorem inv_no61 {l R A R2 : List UInt8} {acc : List Ent} (hi : FoldInv l acc R) (h : R = A ++ 59 :: R2) (hA : 59 ∉ A) (h61 : 61 ∉ A) : readFolder l = none := by
  refine readFolder_no (fun es ho ht => ?_)
  obtain ⟨todo, he, hr⟩ := hi es ho ht
  cases todo with
  | nil => rw [hr] at h; simp [entsText] at h
  | cons e r =>
    have hoe := ents_all ho (e := e) (by rw [he]; simp)
    obtain ⟨e1, _⟩ := ents_cut hoe (hr.symm.trans h) hA
    exact h61 (by rw [e1]; simp)
theorem inv_four {l R : List UInt8} {acc : List Ent} (hi : FoldInv l acc R) (hR : R ≠ []) (h3 : acc.length = 3) : readFolder l = none := by
  refine readFolder_no (fun es ho ht => ?_)
  obtain ⟨todo, he, hr⟩ := hi es ho ht
  cases todo with
  | nil => exact hR hr
  | cons e r =>
    have := (ents_in ho).1
    rw [he] at this
    simp at this
    omega
theorem inv_step {l R N H R2 : List UInt8} {acc : List Ent} (hi : FoldInv l acc R) (h : R = (N ++ 61 :: H) ++ 59 :: R2) (hA : 59 ∉ N ++ 61 :: H) (hN : 61 ∉ N) : FoldInv l (acc ++ [⟨strL N, readHex H⟩]) R2 := by
  intro es ho ht
  obtain ⟨todo, he, hr⟩ := hi es ho ht
  cases todo with
  | nil => rw [hr] at h; simp [entsText] at h
  | cons e r =>
    have hoe := ents_all ho (e := e) (by rw [he]; simp)
    obtain ⟨e1, e2⟩ := ents_cut hoe (hr.symm.trans h) hA
    obtain ⟨e3, e4⟩ := cut_at _ _ _ _ _ hN (entText_cut hoe).1 e1
    refine ⟨r, ?_, e2⟩
    rw [he, List.append_assoc]
    congr 1
    rw [e3, e4, strL_bs, readHex_T (entOk_iff.1 hoe).2]
    rfl
theorem inv_end {l : List UInt8} {acc : List Ent} (hi : FoldInv l acc []) (h : folderText acc ≠ l) : readFolder l = none := by
  refine readFolder_no (fun es ho ht => ?_)
  obtain ⟨todo, he, hr⟩ := hi es ho ht
  cases todo with
  | nil => rw [List.append_nil] at he; subst he; exact h ht
  | cons e r => simp [entsText, entText] at hr
theorem inv_yes {l : List UInt8} {acc : List Ent} (h : folderText acc = l) (hl : l ≠ []) : readFolder l = some acc := by
  refine readFolder_yes ?_ h
  cases ho : entsOk acc
  · exact absurd (by rw [← h, folder_off ho]) hl
  · rfl
theorem entsOf_none {l : List UInt8} (h : readFolder l = none) : entsOf l = [] ∧ (readFolder l).isSome = false := by unfold entsOf; rw [h]; exact ⟨rfl, rfl⟩
theorem entsOf_some {l : List UInt8} {es : List Ent} (h : readFolder l = some es) : entsOf l = es ∧ (readFolder l).isSome = true := by unfold entsOf; rw [h]; exact ⟨rfl, rfl⟩

set_option maxHeartbeats 2000000 in
set_option maxRecDepth 100000 in
theorem impl_ReadFolder_c (s : ByteArray) (w : World) (hs : s.size ≤ 1048576) (hg : Glob w) :
    Calls Tryd.prog 49 #[.string s] w fun e w' => ∃ v', e = .returned (.tuple #[v', .bool (readFolder (bs s)).isSome]) ∧ OwnE w' w.heap.size v' (entsOf (bs s)) ∧ Below w.heap.size w w' := by
  by_cases hpre : ∃ R, bs s = 100 :: R
  · obtain ⟨R0, hR0⟩ := hpre
    have HG := hid hg
    have hne := hid (show bs s ≠ [] by rw [hR0]; simp)
    have hsz := bs_lenH s
    rw [hR0] at hsz
    simp only [List.length_cons] at hsz
    have HI0 := hid (inv_start hR0)
    have HR0 := hid hR0
    clear hR0 hg
    go_enter Tryd.func49, Tryd.ntmps49
    go_wp2_with fail
    refine (CutPrefix_yes_c s 100 R0 _ HR0.out hs).mono ?_
    rintro e w' ⟨rfl, rfl⟩
    go_wp2
    go_loopw [4, 6] (fun rv lv wr => ∃ (R : List UInt8) (acc : List Ent), rv = .string (strL R) ∧ R.length ≤ 1048576 ∧ acc.length ≤ 3 ∧ OwnE wr w.heap.size lv acc ∧ Hid (FoldInv (bs s) acc R) ∧ Below w.heap.size w wr) (fun rv _ _ => sizeOfV rv)
    case atStart => exact ⟨R0, [], rfl, by omega, by simp, Own.nil_, HI0, Below.refl _ _⟩
    case round =>
      obtain ⟨R, acc, rfl, hRl, hacc, hown, hinv, hb⟩ := hrel
      have hrs := strL_size R
      by_cases hR : R = []
      · subst hR
        have hem : (strL []).toList.isEmpty = true := by rw [ByteArray.toList_eq]; rfl
        have hbq := str_beq s (folderText acc)
        by_cases he : folderText acc = bs s
        · have HF := hid (entsOf_some (inv_yes he hne.out))
          have hb2 : ((strL (folderText acc)).toList == s.toList) = true := by rw [hbq]; exact decide_eq_true he
          clear hbq he
          go_wp2_with fail
          refine (impl_FolderText_c _ acc _ (Rd.of_own hown) (HG.out.on hb)).mono ?_
          rintro e w1 ⟨rfl, b1⟩
          have hown1 := hown.on b1
          have hb1 := bl_then hb b1
          go_wp2
          go_ret2
          exact ⟨_, by rw [HF.out.2]; rfl, by rw [HF.out.1]; exact hown1, hb1⟩
        · have HF := hid (entsOf_none (inv_end hinv.out he))
          have hb2 : ((strL (folderText acc)).toList == s.toList) = false := by rw [hbq]; exact decide_eq_false he
          clear hbq he
          go_wp2_with fail
          refine (impl_FolderText_c _ acc _ (Rd.of_own hown) (HG.out.on hb)).mono ?_
          rintro e w1 ⟨rfl, b1⟩
          have hb1 := bl_then hb b1
          go_wp2
          go_ret2
          exact ⟨_, by rw [HF.out.2]; rfl, by rw [HF.out.1]; exact Own.nil_, hb1⟩
      · have hem : (strL R).toList.isEmpty = false := by
          rw [ByteArray.toList_eq]
          cases R with
          | nil => exact absurd rfl hR
          | cons x r => rfl
        rcases cut_ways 59 R with h59 | ⟨A, R2, hA, h59⟩
        · have HF := hid (entsOf_none (inv_no59 hinv.out hR h59))
          have H59 := hid h59
          clear h59 hR
          go_wp2_with fail
          refine (strings_Cut_no_c (strL R) 59 _ (by rw [bs_strL]; exact H59.out)).mono ?_
          rintro e w1 ⟨rfl, q1, rfl⟩
          have hb1 := bl_drewN hb q1
          rcases cut_ways 61 R with h61 | ⟨N, R3, hN, h61⟩
          · go_wp2_with fail
            refine (strings_Cut_no_c (strL R) 61 _ (by rw [bs_strL]; exact h61)).mono ?_
            rintro e w1 ⟨rfl, q2, rfl⟩
            go_wp2
            go_ret2
            exact ⟨_, by rw [HF.out.2]; rfl, by rw [HF.out.1]; exact Own.nil_, bl_drewN hb _⟩
          · have HN := hid hN
            clear hN
            go_wp2_with fail
            refine (strings_Cut_yes_c (strL R) 61 N R3 _ (by rw [bs_strL]; exact HN.out) h61 (by omega)).mono ?_
            rintro e w1 ⟨rfl, q2, rfl⟩
            go_wp2
            go_ret2
            exact ⟨_, by rw [HF.out.2]; rfl, by rw [HF.out.1]; exact Own.nil_, bl_drewN hb _⟩
        · have hl := congrArg List.length hA
          simp only [List.length_append, List.length_cons] at hl
          have HA := hid hA
          have H59 := hid h59
          have hasz := strL_size A
          clear hA h59
          rcases cut_ways 61 A with h61 | ⟨N, H, hN, h61⟩
          · have HF := hid (entsOf_none (inv_no61 hinv.out HA.out H59.out h61))
            have H61 := hid h61
            clear h61 hR
            go_wp2_with fail
            refine (strings_Cut_yes_c (strL R) 59 A R2 _ (by rw [bs_strL]; exact HA.out) H59.out (by omega)).mono ?_
            rintro e w1 ⟨rfl, q1, rfl⟩
            have hb1 := bl_drewN hb q1
            go_wp2_with fail
            refine (strings_Cut_no_c (strL A) 61 _ (by rw [bs_strL]; exact H61.out)).mono ?_
            rintro e w1 ⟨rfl, q2, rfl⟩
            go_wp2
            go_ret2
            exact ⟨_, by rw [HF.out.2]; rfl, by rw [HF.out.1]; exact Own.nil_, bl_drewN hb _⟩
          · have HN := hid hN
            have H61 := hid h61
            have HNE := hid hR
            clear hN h61 hR
            obtain ⟨al, hal⟩ : ∃ al, acc.length = al := ⟨_, rfl⟩
            obtain ⟨la, lc, rfl, hlc, _⟩ : ∃ la lc, _ = Value.slice la al lc ∧ al ≤ lc ∧ True := by
              obtain ⟨a1, c1, e1, h1, _⟩ := (Rd.of_own hown).ents hal
              exact ⟨a1, c1, e1, h1, trivial⟩
            have hb1 := bl_drewN hb
            go_wp2_with fail
            refine (strings_Cut_yes_c (strL R) 59 A R2 _ (by rw [bs_strL]; exact HA.out) H59.out (by omega)).mono ?_
            rintro e w1 ⟨rfl, q1, rfl⟩
            go_wp2_with fail
            refine (strings_Cut_yes_c (strL A) 61 N H _ (by rw [bs_strL]; exact HN.out) H61.out (by omega)).mono ?_
            rintro e w1 ⟨rfl, q2, rfl⟩
            have hb2 := bl_drewN (bl_drewN hb q1) q2
            have hown2 := (hown.drewN q1).drewN q2
            by_cases h3 : al = 3
            · have HF := hid (entsOf_none (inv_four hinv.out HNE.out (hal.trans h3)))
              have h3b : ((al : Int) == 3) = true := by rw [h3]; rfl
              clear h3
              go_wp2
              go_ret2
              exact ⟨_, by rw [HF.out.2]; rfl, by rw [HF.out.1]; exact Own.nil_, bl_drewN hb _⟩
            · have h3b : ((al : Int) == 3) = false := by simp; omega
              have HI := hid (inv_step hinv.out (by rw [← HN.out]; exact HA.out) (by rw [← HN.out]; exact H59.out) H61.out)
              have HAL := hid (show acc.length < 3 by omega)
              obtain ⟨W2, hW2⟩ : ∃ W2, W2 = (wr.drewN q1).drewN q2 := ⟨_, rfl⟩
              rw [← hW2] at hb2 hown2 ⊢
              clear hW2 hal h3
              go_wp2_with fail
              refine (impl_ReadHex_c (strL H) _ (HG.out.on hb2)).mono ?_
              rw [bs_strL]
              rintro e w4 ⟨rfl, b4⟩
              have hown4 := hown2.on b4
              have hb4 := bl_then hb2 b4
              have hB4 := hb4.size
              have hr2 := strL_size R2
              go_wp2_with (at_builtin; refine push_ent (w0 := w) rfl _ _ rfl w.heap.size w.heap.size _ acc ⟨strL N, readHex H⟩ hown4 hb4 hB4 (Nat.le_refl _) rfl rfl (by have := HAL.out; omega) ?_; intro v' w' hown' hb' hB' _)
              go_roundw
              case rel => exact ⟨R2, _, rfl, by omega, by have := HAL.out; simp; omega, hown', HI, hb'⟩
              case measure => simp only [sizeOfV]; omega
  · have HF := hid (entsOf_none (readFolder_no (l := bs s) (fun es ho ht => hpre ⟨entsText es, by rw [← ht, folder_on ho]⟩)))
    have HP := hid (show ∀ r, bs s ≠ 100 :: r from fun r e => hpre ⟨r, e⟩)
    clear hpre
    go_enter Tryd.func49, Tryd.ntmps49
    go_wp2_with fail
    refine (CutPrefix_no_c s 100 _ HP.out hs).mono ?_
    rintro e w' ⟨rfl, rfl⟩
    go_wp2
    go_ret2
    exact ⟨_, by rw [HF.out.2]; rfl, by rw [HF.out.1]; exact Own.nil_, Below.refl _ _⟩

end Go.Proofs.YtkfkcbceoekgjaaDoor
