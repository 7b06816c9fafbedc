/- Walks: reading folders, the reference's way. -/
import Derived.Test.YtkfkcbceoekgjaaDoorReadF
namespace Go.Proofs.YtkfkcbceoekgjaaDoor
open Go.RowKit

theorem inv_drop {l : List UInt8} : FoldInv l [] (l.drop 1) := by
  intro es ho ht
  rw [folder_on ho] at ht
  exact ⟨es, rfl, by rw [← ht]; rfl⟩
theorem ents_head {e : Ent} {r : List Ent} : entsText (e :: r) = bs e.name ++ 61 :: (hexT e.print ++ 59 :: entsText r) := by simp [entsText, entText]
theorem inv_noSign {l R : List UInt8} {acc : List Ent} (hi : FoldInv l acc R) (hR : R ≠ []) (h : 61 ∉ R) : readFolder l = none := by
  refine readFolder_no (fun es ho ht => ?_)
  obtain ⟨todo, he, hr⟩ := hi es ho ht
  cases todo with
  | nil => exact hR hr
  | cons e r => exact h (by rw [hr, ents_head]; simp)
theorem inv_noEnd {l R N T : List UInt8} {acc : List Ent} (hi : FoldInv l acc R) (h : R = N ++ 61 :: T) (hN : 61 ∉ N) (hT : 59 ∉ T) : readFolder l = none := by
  refine readFolder_no (fun es ho ht => ?_)
  obtain ⟨todo, he, hr⟩ := hi es ho ht
  cases todo with
  | nil => rw [hr] at h; simp [entsText] at h
  | cons e r =>
    have hoe := ents_all ho (e := e) (by rw [he]; simp)
    rw [h, ents_head] at hr
    obtain ⟨_, e2⟩ := cut_at _ _ _ _ _ hN (entText_cut hoe).1 hr
    exact hT (by rw [e2]; simp)
theorem inv_stepS {l R N H R2 : List UInt8} {acc : List Ent} (hi : FoldInv l acc R) (h : R = N ++ 61 :: (H ++ 59 :: R2)) (hN : 61 ∉ N) (hH : 59 ∉ H) : FoldInv l (acc ++ [⟨strL N, readHex H⟩]) R2 := by
  intro es ho ht
  obtain ⟨todo, he, hr⟩ := hi es ho ht
  cases todo with
  | nil => rw [hr] at h; simp [entsText] at h
  | cons e r =>
    have hoe := ents_all ho (e := e) (by rw [he]; simp)
    rw [h, ents_head] at hr
    obtain ⟨e1, e2⟩ := cut_at _ _ _ _ _ hN (entText_cut hoe).1 hr
    obtain ⟨e3, e4⟩ := cut_at _ _ _ _ _ hH (entText_cut hoe).2 e2
    refine ⟨r, ?_, e4⟩
    rw [he, List.append_assoc]
    congr 1
    rw [e1, e3, strL_bs, readHex_T (entOk_iff.1 hoe).2]
    rfl
theorem byte_ne {s : ByteArray} {k : Nat} {c d : UInt8} (h : k < s.size) (hg : (bs s)[k]? = some c) (hc : c ≠ d) : ((s[k].toNat : Int) != (d.toNat : Int)) = true := by
  rw [bs_getH s h] at hg
  have : s[k] = c := Option.some.inj hg
  rw [this]
  simp only [bne_iff_ne, ne_eq]
  intro e
  exact hc (UInt8.toNat_inj.1 (by omega))
theorem byte_eq {s : ByteArray} {k : Nat} {d : UInt8} (h : k < s.size) (hg : (bs s)[k]? = some d) : ((s[k].toNat : Int) != (d.toNat : Int)) = false := by
  rw [bs_getH s h] at hg
  have : s[k] = d := Option.some.inj hg
  rw [this]
  simp
theorem get_mid {l P N : List UInt8} {c : UInt8} {T : List UInt8} {p k : Nat} (h : l = P ++ (N ++ T)) (hP : P.length = p) (hk : p ≤ k) (hk2 : k < p + N.length) (hc : c ∉ N) : ∃ x, l[k]? = some x ∧ x ≠ c := by
  refine ⟨N[k - p]'(by omega), ?_, fun e => hc (by rw [← e]; exact List.getElem_mem _)⟩
  rw [h, List.getElem?_append_right (by omega), List.getElem?_append_left (by omega), hP, List.getElem?_eq_getElem (by omega)]
theorem get_at {l P N : List UInt8} {c : UInt8} {T : List UInt8} {p : Nat} (h : l = P ++ (N ++ c :: T)) (hP : P.length = p) : l[p + N.length]? = some c := by
  rw [h, List.getElem?_append_right (by omega), List.getElem?_append_right (by omega), hP, show p + N.length - p - N.length = 0 by omega]
  rfl
/-- Where a byte is first: behind so many others, or nowhere. -/
theorem scan {l P R : List UInt8} {p : Nat} (c : UInt8) (h : l = P ++ R) (hP : P.length = p) : ∃ q, p ≤ q ∧ q ≤ l.length ∧ (∀ k, p ≤ k → k < q → ∃ x, l[k]? = some x ∧ x ≠ c) ∧
    ((q = l.length ∧ c ∉ R) ∨ ∃ N T, R = N ++ c :: T ∧ c ∉ N ∧ q = p + N.length ∧ l[q]? = some c) := by
  rcases cut_ways c R with hn | ⟨N, T, e, hn⟩
  · refine ⟨l.length, by rw [h]; simp; omega, Nat.le_refl _, fun k h1 h2 => get_mid (N := R) (T := []) (by simpa using h) hP h1 (by rw [h] at h2; simp at h2; omega) hn, .inl ⟨rfl, hn⟩⟩
  · refine ⟨p + N.length, by omega, by rw [h, e]; simp; omega, fun k h1 h2 => get_mid (T := c :: T) (by rw [h, e]) hP h1 h2 hn, .inr ⟨N, T, e, hn, rfl, get_at (by rw [h, e]) hP⟩⟩
theorem mid1 {l P N T : List UInt8} {p : Nat} (h : l = P ++ (N ++ T)) (hP : P.length = p) : (l.take (p + N.length)).drop p = N := by
  rw [h, ← List.append_assoc, List.take_left' (by simp [hP]), List.drop_left' hP]
theorem end1 {l P N T : List UInt8} {p : Nat} (h : l = P ++ (N ++ T)) (hP : P.length = p) : l.drop (p + N.length) = T := by
  rw [h, ← List.append_assoc, List.drop_left' (by simp [hP])]

theorem spec_ReadHex_e (s : ByteArray) (w : World) {x : Int} (hs : s.size ≤ 4611686018427387904) (h : readHex (bs s) = x) :
    Calls Tryd.prog 45 #[.string s] w fun e w' => e = .returned (.int .i64 x) ∧ w = w' := h ▸ spec_ReadHex_c s w hs

set_option maxHeartbeats 2000000 in
set_option maxRecDepth 100000 in
theorem spec_ReadFolder_c (s : ByteArray) (w : World) (hs : s.size ≤ 1000000) :
    Calls Tryd.prog 25 #[.string s] w fun e w' => ∃ v', e = .returned (.tuple #[v', .bool (readFolder (bs s)).isSome]) ∧ OwnE w' w.heap.size v' (entsOf (bs s)) ∧ Below w.heap.size w w' := by
  have hal : Below w.heap.size w (w.alloc (.cells #[] 45)) := (Below.refl _ _).alloc (Nat.le_refl _) _
  have hown0 : OwnE (w.alloc (.cells #[] 45)) w.heap.size (.slice (some ⟨w.heap.size, 0, none⟩) 0 0) [] := Own.made _ (Nat.le_refl _)
  have hbl := bs_lenH s
  go_enter Tryd.func25, Tryd.ntmps25
  go_wp2
  go_loopw [4, 5] (fun lv pv wr => ∃ (p : Nat) (acc : List Ent), pv = .int .i64 p ∧ 1 ≤ p ∧ p ≤ s.size + 1 ∧ acc.length ≤ p ∧ OwnE wr w.heap.size lv acc ∧ Hid (FoldInv (bs s) acc ((bs s).drop p) ∧ ∀ x ∈ acc, x.name.size ≤ 1048576) ∧ Below w.heap.size w wr) (fun _ pv _ => s.size + 1 - (intOf pv).toNat)
  case atStart => exact ⟨1, [], rfl, Nat.le_refl _, by omega, by simp, hown0, hid ⟨inv_drop, by simp⟩, hal⟩
  case round =>
    obtain ⟨p, acc, rfl, hp1, hp2, hacc, hown, hinv, hb⟩ := hrel
    clear hown0 hal
    by_cases hlt : p < s.size
    · obtain ⟨R, hR⟩ : ∃ R, (bs s).drop p = R := ⟨_, rfl⟩
      obtain ⟨P, hP⟩ : ∃ P, (bs s).take p = P := ⟨_, rfl⟩
      have hsp : bs s = P ++ R := by rw [← hR, ← hP, List.take_append_drop]
      have hPl : P.length = p := by rw [← hP, List.length_take]; omega
      have hRn : R ≠ [] := fun e => by have := congrArg List.length hR; rw [e] at this; simp at this; omega
      have HI := hid (show FoldInv (bs s) acc R by rw [← hR]; exact hinv.out.1)
      have HRN := hid hRn
      obtain ⟨q, hpq, hqs, hscan, hway⟩ := scan 61 hsp hPl
      rw [hbl] at hqs
      have HS := hid hscan
      have HW := hid hway
      have HSP := hid (And.intro hsp hPl)
      clear hscan hway hR hRn hsp hPl hP
      go_wp2
      go_loop [6] (fun i => ∃ k : Nat, p ≤ k ∧ k ≤ q ∧ i = .int .i64 k) (fun i => s.size - (intOf i).toNat)
      case atStart => exact ⟨p, Nat.le_refl _, hpq, rfl⟩
      case round =>
        obtain ⟨k, hk1, hk2, rfl⟩ := hrel
        by_cases hkq : k < q
        · obtain ⟨x, hx, hxc⟩ := HS.out k hk1 hkq
          have hks : k < s.size := by omega
          have hbn := byte_ne hks hx hxc
          have hbn' : ((s[k].toNat : Int) != 61) = true := hbn
          clear hx hxc hbn
          go_wp2
          go_round
          case rel => exact ⟨k + 1, by omega, by omega, by go_num⟩
          case measure => simp [intOf]; omega
        · obtain rfl : k = q := by omega
          rcases HW.out with ⟨hqe, hn61⟩ | ⟨N, T, hRe, hn61, hqe, hget⟩
          · -- no sign
            have hks : k = s.size := by rw [hqe, hbl]
            have hkn : ¬ k < s.size := by omega
            have hke : ((k : Int) == (s.size : Int)) = true := by rw [hks]; simp
            have HF := hid (entsOf_none (inv_noSign HI.out HRN.out hn61))
            clear hqe hn61 hks
            go_wp2
            refine wp_loop_rounds 1 ?_
            rw [rounds_succ]
            go_wp2
            go_ret2
            exact ⟨_, by rw [HF.out.2]; rfl, by rw [HF.out.1]; exact Own.made _ hb.size, hb.alloc hb.size _⟩
          · have hks : k < s.size := by have := (List.getElem?_eq_some_iff.1 hget).1; omega
            have hbe := byte_eq hks hget
            have hbe' : ((s[k].toNat : Int) != 61) = false := hbe
            have hTl := congrArg List.length hRe
            obtain ⟨e, hke, hes, hscan2, hway2⟩ := scan 59 (l := bs s) (P := P ++ (N ++ [61])) (R := T) (p := k + 1) (by rw [HSP.out.1]; simp [hRe]) (by rw [List.length_append, HSP.out.2]; simp; omega)
            rw [hbl] at hes
            have HS2 := hid hscan2
            have HW2 := hid hway2
            have HRE := hid (And.intro hRe (And.intro hn61 hqe))
            clear hbe hget hTl hscan2 hway2 hRe hn61 hqe
            go_wp2
            go_loop [7] (fun i => ∃ j : Nat, k ≤ j ∧ j ≤ e ∧ i = .int .i64 j) (fun i => s.size - (intOf i).toNat)
            case atStart => exact ⟨k, Nat.le_refl _, by omega, rfl⟩
            case round =>
              obtain ⟨j, hj1, hj2, rfl⟩ := hrel
              by_cases hje : j < e
              · have hjs : j < s.size := by omega
                have hbn' : ((s[j].toNat : Int) != 59) = true := by
                  by_cases hjk : j = k
                  · subst hjk
                    have hx61 : (s[j].toNat : Int) = 61 := by simpa using hbe'
                    rw [hx61]; rfl
                  · obtain ⟨x, hx, hxc⟩ := HS2.out j (by omega) hje
                    exact byte_ne hjs hx hxc
                clear hbe'
                go_wp2
                go_round
                case rel => exact ⟨j + 1, by omega, by omega, by go_num⟩
                case measure => simp [intOf]; omega
              · obtain rfl : j = e := by omega
                rcases HW2.out with ⟨hee, hn59⟩ | ⟨H, R2, hTe, hn59, hee, hget⟩
                · have hjs : j = s.size := by rw [hee, hbl]
                  have hjn : ¬ j < s.size := by omega
                  have hje2 : ((j : Int) == (s.size : Int)) = true := by rw [hjs]; simp
                  have HF := hid (entsOf_none (inv_noEnd HI.out HRE.out.1 HRE.out.2.1 hn59))
                  clear hee hn59 hjs
                  go_wp2
                  go_ret2
                  exact ⟨_, by rw [HF.out.2]; rfl, by rw [HF.out.1]; exact Own.made _ hb.size, hb.alloc hb.size _⟩
                · have hjs : j < s.size := by have := (List.getElem?_eq_some_iff.1 hget).1; omega
                  have hbe2 := byte_eq hjs hget
                  have hbe3 : ((s[j].toNat : Int) != 59) = false := hbe2
                  have hje2 : ((j : Int) == (s.size : Int)) = false := by simp; omega
                  have hsp : bs s = P ++ (N ++ 61 :: (H ++ 59 :: R2)) := by rw [← hTe, ← HRE.out.1]; exact HSP.out.1
                  have hsp2 : bs s = (P ++ (N ++ [61])) ++ (H ++ 59 :: R2) := by rw [hsp]; simp
                  have hsp3 : bs s = (P ++ (N ++ [61])) ++ ((H ++ [59]) ++ R2) := by rw [hsp]; simp
                  have hPl := HSP.out.2
                  have hPl2 : (P ++ (N ++ [61])).length = k + 1 := by rw [List.length_append, hPl]; simp; have := HRE.out.2.2; omega
                  have x1 : s.extract p k = strL N := by rw [ext_strL, HRE.out.2.2, mid1 hsp hPl]
                  have x2 : s.extract (k + 1) j = strL H := by rw [ext_strL, hee, mid1 hsp2 hPl2]
                  have hR2 : (bs s).drop (j + 1) = R2 := by rw [hee, show k + 1 + H.length + 1 = k + 1 + (H ++ [59]).length by simp; omega, end1 hsp3 hPl2]
                  have hHl := strL_size H
                  have hNl := strL_size N
                  have hHs : H.length ≤ 1000000 := by omega
                  have hNs : N.length ≤ 1000000 := by have := HRE.out.2.2; omega
                  have HST := hid (inv_stepS HI.out (by rw [HRE.out.1, hTe]) HRE.out.2.1 hn59)
                  obtain ⟨z, hz⟩ : ∃ z, readHex H = z := ⟨_, rfl⟩
                  have HZ := hid (show readHex (bs (strL H)) = z by rw [bs_strL]; exact hz)
                  rw [hz] at HST
                  have HR2 := hid hR2
                  have HNS := hid hNs
                  have HACC := hid hinv.out.2
                  have HHS := hid (show (strL H).size ≤ 4611686018427387904 by omega)
                  have hkj : (k : Int) + 1 ≤ (j : Int) := by omega
                  have hjs2 : (j : Int) ≤ s.size := by omega
                  have hpk2 : (p : Int) ≤ (k : Int) := by omega
                  have hks2 : (k : Int) ≤ s.size := by omega
                  clear hsp hsp2 hsp3 hPl hPl2 hR2 hTe hn59 hget hbe2 hz hee hNl hHs hNs hHl
                  go_wp2
                  refine wp_region_early (n := 12) _ rfl rfl (by kernel_rfl) (by kernel_rfl) (fun _ _ _ _ h => h) ?_
                  simp only [List.take_succ_cons, List.take_zero, List.drop_succ_cons, List.drop_zero, Act.put, Act.eval, List.setIfInBounds_toArray, List.set_cons_succ, List.set_cons_zero]
                  repeat (go_big_quiet_step ((go_at_call 45; exact qsame (spec_ReadHex_e _ _ HHS.out HZ.out))))
                  refine wpQuiet_nil ?_
                  intro m
                  have hownm := hown.drewN m
                  have hbm := bl_drewN hb m
                  have hBm := hbm.size
                  go_wp2_with (at_builtin; refine push_ent (w0 := w) rfl _ _ rfl w.heap.size w.heap.size _ acc ⟨strL N, z⟩ hownm hbm hBm (Nat.le_refl _) rfl rfl (by omega) ?_; intro v' w' hown' hb' hB' _)
                  go_roundw
                  case rel =>
                    refine ⟨j + 1, _, by go_num, by omega, by omega, by simp; omega, hown', hid ⟨by rw [HR2.out]; exact HST.out, ?_⟩, hb'⟩
                    intro x hx
                    rcases List.mem_append.1 hx with hx | hx
                    · exact HACC.out x hx
                    · obtain rfl : x = ⟨strL N, z⟩ := by simpa using hx
                      have := HNS.out
                      have h2 := strL_size N
                      simp only; omega
                  case measure => simp [intOf]; omega
    · have hdr : (bs s).drop p = [] := List.drop_of_length_le (by omega)
      have HI := hid (show FoldInv (bs s) acc [] by rw [← hdr]; exact hinv.out.1)
      have HACC := hid hinv.out.2
      have hbq := str_beq s (folderText acc)
      have hal1 : acc.length ≤ 1048576 := by omega
      have HL1 := hid hal1
      clear hdr
      by_cases he : folderText acc = bs s
      · by_cases h0 : s.size = 0
        · have hnil : bs s = [] := List.eq_nil_of_length_eq_zero (by rw [hbl]; exact h0)
          have HF := hid (entsOf_none (readFolder_no (l := bs s) (fun es ho ht => by rw [folder_on ho, hnil] at ht; cases ht)))
          have hb2 : ((strL (folderText acc)).toList == s.toList) = true := by rw [hbq]; exact decide_eq_true he
          have hem : s.toList.isEmpty = true := by rw [ByteArray.toList_eq, show s.data.toList = [] from hnil]; rfl
          clear hbq he hnil h0
          go_wp2_with fail
          refine (spec_FolderText_c _ acc _ _ (Rd.of_own hown) HACC.out HL1.out).mono ?_
          rintro e w1 ⟨rfl, q1, rfl⟩
          have hb1 := bl_drewN hb q1
          go_wp2
          go_ret2
          exact ⟨_, by rw [HF.out.2]; rfl, by rw [HF.out.1]; exact Own.made _ hb1.size, hb1.alloc hb1.size _⟩
        · have hne : bs s ≠ [] := fun e => h0 (by rw [← hbl, e]; rfl)
          have HF := hid (entsOf_some (inv_yes he hne))
          have hb2 : ((strL (folderText acc)).toList == s.toList) = true := by rw [hbq]; exact decide_eq_true he
          have hem : s.toList.isEmpty = false := by
            rw [ByteArray.toList_eq]
            cases hd : s.data.toList with
            | nil => exact absurd hd hne
            | cons x r => rfl
          clear hbq he hne h0
          go_wp2_with fail
          refine (spec_FolderText_c _ acc _ _ (Rd.of_own hown) HACC.out HL1.out).mono ?_
          rintro e w1 ⟨rfl, q1, rfl⟩
          have hb1 := bl_drewN hb q1
          have hown1 := hown.drewN q1
          go_wp2
          go_ret2
          exact ⟨_, by rw [HF.out.2]; rfl, by rw [HF.out.1]; exact hown1, hb1⟩
      · have HF := hid (entsOf_none (inv_end HI.out he))
        have hb2 : ((strL (folderText acc)).toList == s.toList) = false := by rw [hbq]; exact decide_eq_false he
        clear hbq he
        go_wp2_with fail
        refine (spec_FolderText_c _ acc _ _ (Rd.of_own hown) HACC.out HL1.out).mono ?_
        rintro e w1 ⟨rfl, q1, rfl⟩
        have hb1 := bl_drewN hb q1
        go_wp2
        go_ret2
        exact ⟨_, by rw [HF.out.2]; rfl, by rw [HF.out.1]; exact Own.made _ hb1.size, hb1.alloc hb1.size _⟩

end Go.Proofs.YtkfkcbceoekgjaaDoor
