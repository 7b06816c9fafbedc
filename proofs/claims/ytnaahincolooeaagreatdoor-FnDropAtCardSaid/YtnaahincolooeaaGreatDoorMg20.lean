/- Walks and plain facts, joined: Wrt2. -/
import Derived.Test.YtnaahincolooeaaGreatDoorMg17
set_option linter.unusedVariables false
set_option linter.unusedSimpArgs false

/- Walks: a path's words, the reference's way. -/
namespace Go.Proofs.YtnaahincolooeaaGreatDoor
open Go.RowKit

theorem split_succ {l : List UInt8} {k : Nat} {c : UInt8} (h : l[k]? = some c) : (l.take (k + 1)).foldl splitStep [] = splitStep ((l.take k).foldl splitStep []) c := foldl_succ _ _ h
theorem split_slash (acc : List (List UInt8)) : splitStep acc 47 = acc ++ [[]] := by unfold splitStep; rw [if_pos rfl]
theorem split_none {c : UInt8} (h : c ≠ 47) : splitStep [] c = [] := by unfold splitStep; rw [if_neg h, if_pos rfl]
theorem split_more {c : UInt8} (h : c ≠ 47) (L : List (List UInt8)) (x : List UInt8) : splitStep (L ++ [x]) c = L ++ [x ++ [c]] := by
  unfold splitStep
  rw [if_neg h, if_neg (by simp)]
  simp
theorem nil_or_snoc' {α : Type} (l : List α) : l = [] ∨ ∃ (t : List α) (i : α), l = t ++ [i] := by
  rcases List.eq_nil_or_concat l with h | ⟨t, x, h⟩
  · exact .inl h
  · exact .inr ⟨t, x, by simpa using h⟩
theorem strs_bs (l : List (List UInt8)) : (l.map strL).map bs = l := by
  rw [List.map_map]
  conv => rhs; rw [← List.map_id l]
  refine List.map_congr_left (fun x _ => ?_)
  simp [bs_strL]

set_option maxHeartbeats 2000000 in
set_option maxRecDepth 100000 in
theorem spec_PathParts_c (s : ByteArray) (w : World) (hs : s.size ≤ 900) :
    Calls Tryz.prog 61 #[.string s] w fun e w' => ∃ v', e = .returned (.tuple #[v', .bool (pathParts (bs s)).isSome]) ∧ OwnS w' w.heap.size v' (((pathParts (bs s)).getD []).map strL) ∧ Below w.heap.size w w' := by
  have hal : Below w.heap.size w (w.alloc (.cells #[] 9)) := (Below.refl _ _).alloc (Nat.le_refl _) _
  have hown0 : OwnS (w.alloc (.cells #[] 9)) w.heap.size (.slice (some ⟨w.heap.size, 0, none⟩) 0 0) [] := Own.made _ (Nat.le_refl _)
  have hb1 := str_beq' s [47]
  rw [show (strL [47]).toList = [47] by rw [ByteArray.toList_eq]; rfl] at hb1
  by_cases h1 : bs s = [47]
  · have HO := hid (show pathParts (bs s) = some [] by unfold pathParts; rw [if_pos h1])
    have hq : (s.toList == [47]) = true := by rw [hb1]; exact decide_eq_true h1
    clear hb1 h1
    go_enter Tryz.func61, Tryz.ntmps61
    go_wp2
    go_ret2
    exact ⟨_, by rw [HO.out]; rfl, by rw [HO.out]; exact hown0, hal⟩
  · have hq : (s.toList == [47]) = false := by rw [hb1]; exact decide_eq_false h1
    have H1 := hid h1
    clear hb1 h1
    go_enter Tryz.func61, Tryz.ntmps61
    go_wp2
    go_loopw [4, 5] (fun out iv wr => ∃ (k : Nat) (acc : List (List UInt8)), k ≤ s.size ∧ iv = .int .i64 k ∧ OwnS wr w.heap.size out (acc.map strL) ∧ Hid (acc = ((bs s).take k).foldl splitStep []) ∧ acc.length ≤ k ∧ Hid (∀ x ∈ acc, x.length ≤ k) ∧ Below w.heap.size w wr) (fun _ iv _ => s.size - (intOf iv).toNat)
    case atStart => exact ⟨0, [], Nat.zero_le _, rfl, hown0, rfl, Nat.zero_le _, hid (by simp), hal⟩
    case round =>
      obtain ⟨k, acc, hk, rfl, hown, hacc, hlen, hsz, hb⟩ := hrel
      clear hown0 hal
      by_cases hlt : k < s.size
      · have hx := bs_get s hlt
        have hB := hb.size
        by_cases hc : s[k] = 47
        · have HF := hid ((split_succ hx).trans (by rw [hc, ← hacc.out, split_slash]))
          have hd0 : (s[k].toNat : Int) = 47 := by rw [hc]; rfl
          clear hx hc
          go_wp2_with (at_builtin; refine push_str (w0 := w) rfl _ _ rfl w.heap.size w.heap.size _ (acc.map strL) ⟨#[]⟩ hown hb hB (Nat.le_refl _) rfl rfl (by simp; omega) ?_; intro v' w' hown' hb' hB' hg')
          go_roundw
          case rel => exact ⟨k + 1, acc ++ [[]], by omega, by go_num, by rw [List.map_append]; exact hown', hid HF.out.symm, by simp; omega, hid (fun x hx' => by
            rcases List.mem_append.1 hx' with h | h
            · have := hsz.out x h; omega
            · obtain rfl : x = [] := by simpa using h
              simp), hb'⟩
          case measure => simp [intOf]; omega
        · have hd0 : ¬ (s[k].toNat : Int) = 47 := by
            intro e
            have : s[k].toNat = 47 := by omega
            exact hc (UInt8.toNat_inj.1 this)
          have HC := hid hc
          have HX := hid hx
          clear hx hc
          rcases nil_or_snoc' acc with rfl | ⟨L, x, rfl⟩
          · have HF := hid ((split_succ HX.out).trans (by rw [← hacc.out, split_none HC.out]))
            obtain ⟨a0, c0, rfl, _, _, _⟩ := (Rd.of_own hown).strs (n := 0) rfl
            go_wp2
            go_roundw
            case rel => exact ⟨k + 1, [], by omega, by go_num, hown, hid HF.out.symm, by simp, hid (by simp), hb⟩
            case measure => simp [intOf]; omega
          · have HF := hid ((split_succ HX.out).trans (by rw [← hacc.out, split_more HC.out]))
            obtain ⟨m, hm⟩ : ∃ m, L.length = m := ⟨_, rfl⟩
            have hln : ((L ++ [x]).map strL).length = m + 1 := by simp [hm]
            have hxl := hsz.out x (by simp)
            rcases hown.2 with ⟨_, h00⟩ | ⟨g, cap, cur, hv, hge, hh, hnc, hcm, hcs, htk⟩
            · omega
            rw [hln] at hv
            subst hv
            have hR : wr.ownsRow w.heap.size 9 1 (.slice (some ⟨g, 0, none⟩) (m + 1) cap) (m + 1) ((L.map strL).flatMap encS ++ [.string (strL x)]) := by
              have := hown
              unfold OwnS Own at this
              rw [hln] at this
              simpa [encS] using this
            have hfl : ((L.map strL).flatMap encS).length = m := by rw [← List.map_eq_flatMap]; simp [hm]
            have d0 : wr.cell? ⟨g, m, none⟩ = some (.string (strL x)) := (hR.cellAt m (by omega)).trans (by rw [List.getElem?_append_right (by omega), hfl]; simp)
            have f0 : wr.frozen? ⟨g, m, none⟩ = false := hR.frozenAt m
            have hxe : s.extract k (k + 1) = strL [s[k]] := by
              rw [ext_strL, take_snoc' HX.out, List.drop_append, List.drop_of_length_le (by simp; omega), show k - ((bs s).take k).length = 0 by simp; omega]
              rfl
            have hcat : strL x ++ s.extract k (k + 1) = strL (x ++ [s[k]]) := by rw [hxe, strL_append]
            have hs1 := strL_size x
            have hq1 : (strL x).size + (s.extract k (k + 1)).size ≤ 9223372036854775807 := by rw [hxe, strL_size, strL_size]; simp; omega
            have HST := hid (hR.stored m (.string (strL x ++ s.extract k (k + 1))))
            have HCAT := hid hcat
            have HFL := hid hfl
            have hkk : (k : Int) + 1 ≤ s.size := by omega
            have hmk : m + 1 ≤ k := by simp at hlen; omega
            have hw1 : IntKind.i64.wrap (m : Int) = (m : Int) := IntWalk.i64_in _ (by omega)
            have hw2 : wrap64 (m : Int) = (m : Int) := by unfold wrap64; omega
            have HM := hid hm
            have HGE := hid hge
            clear hh hnc hcm hcs htk hR hfl hxe hcat hm hown hln hge
            go_wp2
            refine wp_region_early (n := 17) _ rfl rfl (by kernel_rfl) (by kernel_rfl) (fun _ _ _ _ h => h) ?_
            simp only [List.take_succ_cons, List.take_zero, List.drop_succ_cons, List.drop_zero, Act.put, Act.eval, List.setIfInBounds_toArray, List.set_cons_succ, List.set_cons_zero]
            repeat (go_big_quiet_step (fail))
            refine wpQuiet_nil ?_
            intro q6
            go_wp2
            go_roundw
            case rel =>
              refine ⟨k + 1, L ++ [x ++ [s[k]]], by omega, by go_num, ?_, hid HF.out.symm, by simp at hlen ⊢; omega, hid (fun y hy => ?_), (hb.trans (bl_drewN (Below.refl _ _) q6)).setCell HGE.out _⟩
              · have h1 := HST.out.1
                rw [HCAT.out, List.set_append_right _ _ (by rw [HFL.out]; omega), HFL.out, Nat.sub_self] at h1
                unfold OwnS Own
                rw [show ((L ++ [x ++ [s[k]]]).map strL).length = m + 1 by simp [HM.out]]
                have h2 : ((L ++ [x ++ [s[k]]]).map strL).flatMap encS = (L.map strL).flatMap encS ++ [.string (strL (x ++ [s[k]]))] := by simp [encS]
                rw [h2]
                rw [HCAT.out]
                exact h1
              · rcases List.mem_append.1 hy with h | h
                · have := hsz.out y (by simp [h]); omega
                · obtain rfl : y = x ++ [s[k]] := by simpa using h
                  simp; omega
            case measure => simp [intOf]; omega
      · have HF := hid (show acc = splitP (bs s) by rw [hacc.out, take_all (bs_len s) (show s.size ≤ k by omega)]; rfl)
        by_cases hs0 : 0 < s.size
        · have hem : s.toList.isEmpty = false := by
            rw [← strL_bs s]
            exact strL_nem (by intro e; have := bs_len s; rw [e] at this; simp at this; omega)
          have hne : bs s ≠ [] := by intro e; have := bs_len s; rw [e] at this; simp at this; omega
          have HNE := hid hne
          have hjl : (acc.map strL).length ≤ 1000 := by simp; omega
          have hjs : ∀ x ∈ acc.map strL, x.size ≤ 1000 := fun x hx => by
            obtain ⟨y, hy, rfl⟩ := List.mem_map.1 hx
            have := hsz.out y hy
            rw [strL_size]; omega
          have HJL := hid hjl
          have HJS := hid hjs
          have hbq := str_beq s (joinP acc)
          have HJ := hid (show joinP ((acc.map strL).map bs) = joinP acc by rw [strs_bs])
          clear hne hjl hjs
          by_cases hj : joinP acc = bs s
          · have HO := hid (show pathParts (bs s) = some acc by unfold pathParts; rw [if_neg H1.out, ← HF.out, if_pos ⟨HNE.out, hj⟩])
            have hbt : ((strL (joinP acc)).toList == s.toList) = true := by rw [hbq]; exact decide_eq_true hj
            clear hbq hj
            go_wp2_with (go_at_call 104; refine (spec_JoinPath_c _ _ _ (Rd.of_own hown) HJS.out HJL.out).mono ?_; rw [HJ.out]; rintro e w' ⟨rfl, rfl⟩)
            go_ret2
            exact ⟨_, by rw [HO.out]; rfl, by rw [HO.out]; exact hown, hb⟩
          · have HO := hid (show pathParts (bs s) = none by unfold pathParts; rw [if_neg H1.out, ← HF.out, if_neg (fun h => hj h.2)])
            have hbt : ((strL (joinP acc)).toList == s.toList) = false := by rw [hbq]; exact decide_eq_false hj
            have hal2 := hid (hb.alloc hb.size (.cells #[] 9))
            have hown2 : Hid (OwnS (wr.alloc (.cells #[] 9)) w.heap.size (.slice (some ⟨wr.heap.size, 0, none⟩) 0 0) []) := hid (Own.made _ hb.size)
            clear hbq hj
            go_wp2_with (go_at_call 104; refine (spec_JoinPath_c _ _ _ (Rd.of_own hown) HJS.out HJL.out).mono ?_; rw [HJ.out]; rintro e w' ⟨rfl, rfl⟩)
            go_ret2
            exact ⟨_, by rw [HO.out]; rfl, by rw [HO.out]; exact hown2.out, hal2.out⟩
        · have hem : s.toList.isEmpty = true := by
            have : bs s = [] := List.length_eq_zero_iff.1 (by rw [bs_len]; omega)
            rw [← strL_bs s, this]
            exact strL_emp
          have HO := hid (show pathParts (bs s) = none by
            have : bs s = [] := List.length_eq_zero_iff.1 (by rw [bs_len]; omega)
            unfold pathParts; rw [if_neg H1.out, if_neg (fun h => h.1 this)])
          have hal2 := hid (hb.alloc hb.size (.cells #[] 9))
          have hown2 : Hid (OwnS (wr.alloc (.cells #[] 9)) w.heap.size (.slice (some ⟨wr.heap.size, 0, none⟩) 0 0) []) := hid (Own.made _ hb.size)
          go_wp2
          go_ret2
          exact ⟨_, by rw [HO.out]; rfl, by rw [HO.out]; exact hown2.out, hal2.out⟩

end Go.Proofs.YtnaahincolooeaaGreatDoor
