/- Walks and plain facts, joined: ReadS, WayP. -/
import Derived.Test.YtachfmlfmpaddaaGreatDoorMg14
set_option linter.unusedVariables false
set_option linter.unusedSimpArgs false

/- Walks: reading folders, the reference's way. -/
namespace Go.Proofs.YtachfmlfmpaddaaGreatDoor
open Go.RowKit

theorem inv_drop {l : List UInt8} : FoldInv l [] (l.drop 1) := by
  intro es ho ht
  rw [folder_on ho] at ht
  exact ⟨es, rfl, by rw [← ht]; rfl⟩
theorem ents_head {e : Ent} {r : List Ent} : entsText (e :: r) = bs e.name ++ 61 :: (hexT e.print ++ 59 :: entsText r) := by simp [entsText, entText]
theorem inv_noSign {l R : List UInt8} {acc : List Ent} (hi : FoldInv l acc R) (hR : R ≠ []) (h : 61 ∉ R) : readFolder l = none := by
  refine readFolder_no (fun es ho ht => ?_)
  obtain ⟨todo, he, hr⟩ := hi es ho ht
  cases todo with
  | nil => exact hR hr
  | cons e r => exact h (by rw [hr, ents_head]; simp)
theorem inv_noEnd {l R N T : List UInt8} {acc : List Ent} (hi : FoldInv l acc R) (h : R = N ++ 61 :: T) (hN : 61 ∉ N) (hT : 59 ∉ T) : readFolder l = none := by
  refine readFolder_no (fun es ho ht => ?_)
  obtain ⟨todo, he, hr⟩ := hi es ho ht
  cases todo with
  | nil => rw [hr] at h; simp [entsText] at h
  | cons e r =>
    have hoe := ents_all ho (e := e) (by rw [he]; simp)
    rw [h, ents_head] at hr
    obtain ⟨_, e2⟩ := cut_at _ _ _ _ _ hN (entText_cut hoe).1 hr
    exact hT (by rw [e2]; simp)
theorem inv_stepS {l R N H R2 : List UInt8} {acc : List Ent} (hi : FoldInv l acc R) (h : R = N ++ 61 :: (H ++ 59 :: R2)) (hN : 61 ∉ N) (hH : 59 ∉ H) : FoldInv l (acc ++ [⟨strL N, readHex H⟩]) R2 := by
  intro es ho ht
  obtain ⟨todo, he, hr⟩ := hi es ho ht
  cases todo with
  | nil => rw [hr] at h; simp [entsText] at h
  | cons e r =>
    have hoe := ents_all ho (e := e) (by rw [he]; simp)
    rw [h, ents_head] at hr
    obtain ⟨e1, e2⟩ := cut_at _ _ _ _ _ hN (entText_cut hoe).1 hr
    obtain ⟨e3, e4⟩ := cut_at _ _ _ _ _ hH (entText_cut hoe).2 e2
    refine ⟨r, ?_, e4⟩
    rw [he, List.append_assoc]
    congr 1
    rw [e1, e3, strL_bs, readHex_T (entOk_iff.1 hoe).2]
    rfl
theorem byte_ne {s : ByteArray} {k : Nat} {c d : UInt8} (h : k < s.size) (hg : (bs s)[k]? = some c) (hc : c ≠ d) : ((s[k].toNat : Int) != (d.toNat : Int)) = true := by
  rw [bs_getH s h] at hg
  have : s[k] = c := Option.some.inj hg
  rw [this]
  simp only [bne_iff_ne, ne_eq]
  intro e
  exact hc (UInt8.toNat_inj.1 (by omega))
theorem byte_eq {s : ByteArray} {k : Nat} {d : UInt8} (h : k < s.size) (hg : (bs s)[k]? = some d) : ((s[k].toNat : Int) != (d.toNat : Int)) = false := by
  rw [bs_getH s h] at hg
  have : s[k] = d := Option.some.inj hg
  rw [this]
  simp
theorem get_mid {l P N : List UInt8} {c : UInt8} {T : List UInt8} {p k : Nat} (h : l = P ++ (N ++ T)) (hP : P.length = p) (hk : p ≤ k) (hk2 : k < p + N.length) (hc : c ∉ N) : ∃ x, l[k]? = some x ∧ x ≠ c := by
  refine ⟨N[k - p]'(by omega), ?_, fun e => hc (by rw [← e]; exact List.getElem_mem _)⟩
  rw [h, List.getElem?_append_right (by omega), List.getElem?_append_left (by omega), hP, List.getElem?_eq_getElem (by omega)]
theorem get_at {l P N : List UInt8} {c : UInt8} {T : List UInt8} {p : Nat} (h : l = P ++ (N ++ c :: T)) (hP : P.length = p) : l[p + N.length]? = some c := by
  rw [h, List.getElem?_append_right (by omega), List.getElem?_append_right (by omega), hP, show p + N.length - p - N.length = 0 by omega]
  rfl
/-- Where a byte is first: behind so many others, or nowhere. -/
theorem scan {l P R : List UInt8} {p : Nat} (c : UInt8) (h : l = P ++ R) (hP : P.length = p) : ∃ q, p ≤ q ∧ q ≤ l.length ∧ (∀ k, p ≤ k → k < q → ∃ x, l[k]? = some x ∧ x ≠ c) ∧
    ((q = l.length ∧ c ∉ R) ∨ ∃ N T, R = N ++ c :: T ∧ c ∉ N ∧ q = p + N.length ∧ l[q]? = some c) := by
  rcases cut_ways c R with hn | ⟨N, T, e, hn⟩
  · refine ⟨l.length, by rw [h]; simp; omega, Nat.le_refl _, fun k h1 h2 => get_mid (N := R) (T := []) (by simpa using h) hP h1 (by rw [h] at h2; simp at h2; omega) hn, .inl ⟨rfl, hn⟩⟩
  · refine ⟨p + N.length, by omega, by rw [h, e]; simp; omega, fun k h1 h2 => get_mid (T := c :: T) (by rw [h, e]) hP h1 h2 hn, .inr ⟨N, T, e, hn, rfl, get_at (by rw [h, e]) hP⟩⟩
theorem mid1 {l P N T : List UInt8} {p : Nat} (h : l = P ++ (N ++ T)) (hP : P.length = p) : (l.take (p + N.length)).drop p = N := by
  rw [h, ← List.append_assoc, List.take_left' (by simp [hP]), List.drop_left' hP]
theorem end1 {l P N T : List UInt8} {p : Nat} (h : l = P ++ (N ++ T)) (hP : P.length = p) : l.drop (p + N.length) = T := by
  rw [h, ← List.append_assoc, List.drop_left' (by simp [hP])]

theorem spec_ReadHex_e (s : ByteArray) (w : World) {x : Int} (hs : s.size ≤ 4611686018427387904) (h : readHex (bs s) = x) :
    Calls Tryz.prog 159 #[.string s] w fun e w' => e = .returned (.int .i64 x) ∧ w = w' := h ▸ spec_ReadHex_c s w hs

set_option maxHeartbeats 2000000 in
set_option maxRecDepth 100000 in
theorem spec_ReadFolder_c (s : ByteArray) (w : World) (hs : s.size ≤ 1000000) :
    Calls Tryz.prog 124 #[.string s] w fun e w' => ∃ v', e = .returned (.tuple #[v', .bool (readFolder (bs s)).isSome]) ∧ OwnE w' w.heap.size v' (entsOf (bs s)) ∧ Below w.heap.size w w' := by
  have hal : Below w.heap.size w (w.alloc (.cells #[] 81)) := (Below.refl _ _).alloc (Nat.le_refl _) _
  have hown0 : OwnE (w.alloc (.cells #[] 81)) w.heap.size (.slice (some ⟨w.heap.size, 0, none⟩) 0 0) [] := Own.made _ (Nat.le_refl _)
  have hbl := bs_lenH s
  go_enter Tryz.func124, Tryz.ntmps124
  go_wp2
  go_loopw [4, 5] (fun lv pv wr => ∃ (p : Nat) (acc : List Ent), pv = .int .i64 p ∧ 1 ≤ p ∧ p ≤ s.size + 1 ∧ acc.length ≤ p ∧ OwnE wr w.heap.size lv acc ∧ Hid (FoldInv (bs s) acc ((bs s).drop p) ∧ ∀ x ∈ acc, x.name.size ≤ 1048576) ∧ Below w.heap.size w wr) (fun _ pv _ => s.size + 1 - (intOf pv).toNat)
  case atStart => exact ⟨1, [], rfl, Nat.le_refl _, by omega, by simp, hown0, hid ⟨inv_drop, by simp⟩, hal⟩
  case round =>
    obtain ⟨p, acc, rfl, hp1, hp2, hacc, hown, hinv, hb⟩ := hrel
    clear hown0 hal
    by_cases hlt : p < s.size
    · obtain ⟨R, hR⟩ : ∃ R, (bs s).drop p = R := ⟨_, rfl⟩
      obtain ⟨P, hP⟩ : ∃ P, (bs s).take p = P := ⟨_, rfl⟩
      have hsp : bs s = P ++ R := by rw [← hR, ← hP, List.take_append_drop]
      have hPl : P.length = p := by rw [← hP, List.length_take]; omega
      have hRn : R ≠ [] := fun e => by have := congrArg List.length hR; rw [e] at this; simp at this; omega
      have HI := hid (show FoldInv (bs s) acc R by rw [← hR]; exact hinv.out.1)
      have HRN := hid hRn
      obtain ⟨q, hpq, hqs, hscan, hway⟩ := scan 61 hsp hPl
      rw [hbl] at hqs
      have HS := hid hscan
      have HW := hid hway
      have HSP := hid (And.intro hsp hPl)
      clear hscan hway hR hRn hsp hPl hP
      go_wp2
      go_loop [6] (fun i => ∃ k : Nat, p ≤ k ∧ k ≤ q ∧ i = .int .i64 k) (fun i => s.size - (intOf i).toNat)
      case atStart => exact ⟨p, Nat.le_refl _, hpq, rfl⟩
      case round =>
        obtain ⟨k, hk1, hk2, rfl⟩ := hrel
        by_cases hkq : k < q
        · obtain ⟨x, hx, hxc⟩ := HS.out k hk1 hkq
          have hks : k < s.size := by omega
          have hbn := byte_ne hks hx hxc
          have hbn' : ((s[k].toNat : Int) != 61) = true := hbn
          clear hx hxc hbn
          go_wp2
          go_round
          case rel => exact ⟨k + 1, by omega, by omega, by go_num⟩
          case measure => simp [intOf]; omega
        · obtain rfl : k = q := by omega
          rcases HW.out with ⟨hqe, hn61⟩ | ⟨N, T, hRe, hn61, hqe, hget⟩
          · -- no sign
            have hks : k = s.size := by rw [hqe, hbl]
            have hkn : ¬ k < s.size := by omega
            have hke : ((k : Int) == (s.size : Int)) = true := by rw [hks]; simp
            have HF := hid (entsOf_none (inv_noSign HI.out HRN.out hn61))
            clear hqe hn61 hks
            go_wp2
            refine wp_loop_rounds 1 ?_
            rw [rounds_succ]
            go_wp2
            go_ret2
            exact ⟨_, by rw [HF.out.2]; rfl, by rw [HF.out.1]; exact Own.made _ hb.size, hb.alloc hb.size _⟩
          · have hks : k < s.size := by have := (List.getElem?_eq_some_iff.1 hget).1; omega
            have hbe := byte_eq hks hget
            have hbe' : ((s[k].toNat : Int) != 61) = false := hbe
            have hTl := congrArg List.length hRe
            obtain ⟨e, hke, hes, hscan2, hway2⟩ := scan 59 (l := bs s) (P := P ++ (N ++ [61])) (R := T) (p := k + 1) (by rw [HSP.out.1]; simp [hRe]) (by rw [List.length_append, HSP.out.2]; simp; omega)
            rw [hbl] at hes
            have HS2 := hid hscan2
            have HW2 := hid hway2
            have HRE := hid (And.intro hRe (And.intro hn61 hqe))
            clear hbe hget hTl hscan2 hway2 hRe hn61 hqe
            go_wp2
            go_loop [7] (fun i => ∃ j : Nat, k ≤ j ∧ j ≤ e ∧ i = .int .i64 j) (fun i => s.size - (intOf i).toNat)
            case atStart => exact ⟨k, Nat.le_refl _, by omega, rfl⟩
            case round =>
              obtain ⟨j, hj1, hj2, rfl⟩ := hrel
              by_cases hje : j < e
              · have hjs : j < s.size := by omega
                have hbn' : ((s[j].toNat : Int) != 59) = true := by
                  by_cases hjk : j = k
                  · subst hjk
                    have hx61 : (s[j].toNat : Int) = 61 := by simpa using hbe'
                    rw [hx61]; rfl
                  · obtain ⟨x, hx, hxc⟩ := HS2.out j (by omega) hje
                    exact byte_ne hjs hx hxc
                clear hbe'
                go_wp2
                go_round
                case rel => exact ⟨j + 1, by omega, by omega, by go_num⟩
                case measure => simp [intOf]; omega
              · obtain rfl : j = e := by omega
                rcases HW2.out with ⟨hee, hn59⟩ | ⟨H, R2, hTe, hn59, hee, hget⟩
                · have hjs : j = s.size := by rw [hee, hbl]
                  have hjn : ¬ j < s.size := by omega
                  have hje2 : ((j : Int) == (s.size : Int)) = true := by rw [hjs]; simp
                  have HF := hid (entsOf_none (inv_noEnd HI.out HRE.out.1 HRE.out.2.1 hn59))
                  clear hee hn59 hjs
                  go_wp2
                  go_ret2
                  exact ⟨_, by rw [HF.out.2]; rfl, by rw [HF.out.1]; exact Own.made _ hb.size, hb.alloc hb.size _⟩
                · have hjs : j < s.size := by have := (List.getElem?_eq_some_iff.1 hget).1; omega
                  have hbe2 := byte_eq hjs hget
                  have hbe3 : ((s[j].toNat : Int) != 59) = false := hbe2
                  have hje2 : ((j : Int) == (s.size : Int)) = false := by simp; omega
                  have hsp : bs s = P ++ (N ++ 61 :: (H ++ 59 :: R2)) := by rw [← hTe, ← HRE.out.1]; exact HSP.out.1
                  have hsp2 : bs s = (P ++ (N ++ [61])) ++ (H ++ 59 :: R2) := by rw [hsp]; simp
                  have hsp3 : bs s = (P ++ (N ++ [61])) ++ ((H ++ [59]) ++ R2) := by rw [hsp]; simp
                  have hPl := HSP.out.2
                  have hPl2 : (P ++ (N ++ [61])).length = k + 1 := by rw [List.length_append, hPl]; simp; have := HRE.out.2.2; omega
                  have x1 : s.extract p k = strL N := by rw [ext_strL, HRE.out.2.2, mid1 hsp hPl]
                  have x2 : s.extract (k + 1) j = strL H := by rw [ext_strL, hee, mid1 hsp2 hPl2]
                  have hR2 : (bs s).drop (j + 1) = R2 := by rw [hee, show k + 1 + H.length + 1 = k + 1 + (H ++ [59]).length by simp; omega, end1 hsp3 hPl2]
                  have hHl := strL_size H
                  have hNl := strL_size N
                  have hHs : H.length ≤ 1000000 := by omega
                  have hNs : N.length ≤ 1000000 := by have := HRE.out.2.2; omega
                  have HST := hid (inv_stepS HI.out (by rw [HRE.out.1, hTe]) HRE.out.2.1 hn59)
                  obtain ⟨z, hz⟩ : ∃ z, readHex H = z := ⟨_, rfl⟩
                  have HZ := hid (show readHex (bs (strL H)) = z by rw [bs_strL]; exact hz)
                  rw [hz] at HST
                  have HR2 := hid hR2
                  have HNS := hid hNs
                  have HACC := hid hinv.out.2
                  have HHS := hid (show (strL H).size ≤ 4611686018427387904 by omega)
                  have hkj : (k : Int) + 1 ≤ (j : Int) := by omega
                  have hjs2 : (j : Int) ≤ s.size := by omega
                  have hpk2 : (p : Int) ≤ (k : Int) := by omega
                  have hks2 : (k : Int) ≤ s.size := by omega
                  clear hsp hsp2 hsp3 hPl hPl2 hR2 hTe hn59 hget hbe2 hz hee hNl hHs hNs hHl
                  go_wp2
                  refine wp_region_early (n := 12) _ rfl rfl (by kernel_rfl) (by kernel_rfl) (fun _ _ _ _ h => h) ?_
                  simp only [List.take_succ_cons, List.take_zero, List.drop_succ_cons, List.drop_zero, Act.put, Act.eval, List.setIfInBounds_toArray, List.set_cons_succ, List.set_cons_zero]
                  repeat (go_big_quiet_step ((go_at_call 159; exact qsame (spec_ReadHex_e _ _ HHS.out HZ.out))))
                  refine wpQuiet_nil ?_
                  intro m
                  have hownm := hown.drewN m
                  have hbm := bl_drewN hb m
                  have hBm := hbm.size
                  go_wp2_with (at_builtin; refine push_ent (w0 := w) rfl _ _ rfl w.heap.size w.heap.size _ acc ⟨strL N, z⟩ hownm hbm hBm (Nat.le_refl _) rfl rfl (by omega) ?_; intro v' w' hown' hb' hB' _)
                  go_roundw
                  case rel =>
                    refine ⟨j + 1, _, by go_num, by omega, by omega, by simp; omega, hown', hid ⟨by rw [HR2.out]; exact HST.out, ?_⟩, hb'⟩
                    intro x hx
                    rcases List.mem_append.1 hx with hx | hx
                    · exact HACC.out x hx
                    · obtain rfl : x = ⟨strL N, z⟩ := by simpa using hx
                      have := HNS.out
                      have h2 := strL_size N
                      simp only; omega
                  case measure => simp [intOf]; omega
    · have hdr : (bs s).drop p = [] := List.drop_of_length_le (by omega)
      have HI := hid (show FoldInv (bs s) acc [] by rw [← hdr]; exact hinv.out.1)
      have HACC := hid hinv.out.2
      have hbq := str_beq s (folderText acc)
      have hal1 : acc.length ≤ 1048576 := by omega
      have HL1 := hid hal1
      clear hdr
      by_cases he : folderText acc = bs s
      · by_cases h0 : s.size = 0
        · have hnil : bs s = [] := List.eq_nil_of_length_eq_zero (by rw [hbl]; exact h0)
          have HF := hid (entsOf_none (readFolder_no (l := bs s) (fun es ho ht => by rw [folder_on ho, hnil] at ht; cases ht)))
          have hb2 : ((strL (folderText acc)).toList == s.toList) = true := by rw [hbq]; exact decide_eq_true he
          have hem : s.toList.isEmpty = true := by rw [ByteArray.toList_eq, show s.data.toList = [] from hnil]; rfl
          clear hbq he hnil h0
          go_wp2_with fail
          refine (spec_FolderText_c _ acc _ _ (Rd.of_own hown) HACC.out HL1.out).mono ?_
          rintro e w1 ⟨rfl, q1, rfl⟩
          have hb1 := bl_drewN hb q1
          go_wp2
          go_ret2
          exact ⟨_, by rw [HF.out.2]; rfl, by rw [HF.out.1]; exact Own.made _ hb1.size, hb1.alloc hb1.size _⟩
        · have hne : bs s ≠ [] := fun e => h0 (by rw [← hbl, e]; rfl)
          have HF := hid (entsOf_some (inv_yes he hne))
          have hb2 : ((strL (folderText acc)).toList == s.toList) = true := by rw [hbq]; exact decide_eq_true he
          have hem : s.toList.isEmpty = false := by
            rw [ByteArray.toList_eq]
            cases hd : s.data.toList with
            | nil => exact absurd hd hne
            | cons x r => rfl
          clear hbq he hne h0
          go_wp2_with fail
          refine (spec_FolderText_c _ acc _ _ (Rd.of_own hown) HACC.out HL1.out).mono ?_
          rintro e w1 ⟨rfl, q1, rfl⟩
          have hb1 := bl_drewN hb q1
          have hown1 := hown.drewN q1
          go_wp2
          go_ret2
          exact ⟨_, by rw [HF.out.2]; rfl, by rw [HF.out.1]; exact hown1, hb1⟩
      · have HF := hid (entsOf_none (inv_end HI.out he))
        have hb2 : ((strL (folderText acc)).toList == s.toList) = false := by rw [hbq]; exact decide_eq_false he
        clear hbq he
        go_wp2_with fail
        refine (spec_FolderText_c _ acc _ _ (Rd.of_own hown) HACC.out HL1.out).mono ?_
        rintro e w1 ⟨rfl, q1, rfl⟩
        have hb1 := bl_drewN hb q1
        go_wp2
        go_ret2
        exact ⟨_, by rw [HF.out.2]; rfl, by rw [HF.out.1]; exact Own.made _ hb1.size, hb1.alloc hb1.size _⟩

end Go.Proofs.YtachfmlfmpaddaaGreatDoor

/- Ways of names through folders, and what is put on the way back: the program's order of writing and the reference's come to the same. No program in sight. -/
namespace Go.Proofs.YtachfmlfmpaddaaGreatDoor
open Go.RowKit

/-! ### Names in order -/
theorem blt_irr (a : List UInt8) : Go.Op.bytesLess a a = false := by
  induction a with
  | nil => rfl
  | cons x r ih => simp [Go.Op.bytesLess, ih]
theorem blt_trans : ∀ (a b c : List UInt8), Go.Op.bytesLess a b = true → Go.Op.bytesLess b c = true → Go.Op.bytesLess a c = true
  | [], _, [], _, h => by cases ‹List UInt8› <;> simp [Go.Op.bytesLess] at h
  | [], _, _ :: _, _, _ => by simp [Go.Op.bytesLess]
  | _ :: _, [], _, h, _ => by simp [Go.Op.bytesLess] at h
  | _ :: _, _ :: _, [], _, h => by simp [Go.Op.bytesLess] at h
  | x :: r, y :: s, z :: t, h, k => by
    simp only [Go.Op.bytesLess, Bool.or_eq_true, Bool.and_eq_true, decide_eq_true_eq, beq_iff_eq] at h k ⊢
    rcases h with h | ⟨rfl, h⟩
    · rcases k with k | ⟨rfl, k⟩
      · exact .inl (UInt8.lt_trans h k)
      · exact .inl h
    · rcases k with k | ⟨rfl, k⟩
      · exact .inl k
      · exact .inr ⟨rfl, blt_trans _ _ _ h k⟩
theorem blt_tot : ∀ (a b : List UInt8), Go.Op.bytesLess a b = true ∨ a = b ∨ Go.Op.bytesLess b a = true
  | [], [] => .inr (.inl rfl)
  | [], _ :: _ => .inl (by simp [Go.Op.bytesLess])
  | _ :: _, [] => .inr (.inr (by simp [Go.Op.bytesLess]))
  | x :: r, y :: s => by
    simp only [Go.Op.bytesLess, Bool.or_eq_true, Bool.and_eq_true, decide_eq_true_eq, beq_iff_eq]
    by_cases h : x < y
    · exact .inl (.inl h)
    · by_cases k : y < x
      · exact .inr (.inr (.inl k))
      · have e : x = y := UInt8.le_antisymm (UInt8.not_lt.1 k) (UInt8.not_lt.1 h)
        subst e
        rcases blt_tot r s with h | rfl | h
        · exact .inl (.inr ⟨rfl, h⟩)
        · exact .inr (.inl rfl)
        · exact .inr (.inr (.inr ⟨rfl, h⟩))
theorem ltN_irr (a : ByteArray) : ltN a a = false := blt_irr _
theorem ltN_trans {a b c : ByteArray} (h : ltN a b = true) (k : ltN b c = true) : ltN a c = true := blt_trans _ _ _ h k
theorem ltN_tot (a b : ByteArray) : ltN a b = true ∨ a = b ∨ ltN b a = true := by
  rcases blt_tot (bs a) (bs b) with h | h | h
  · exact .inl h
  · exact .inr (.inl (bs_inj h))
  · exact .inr (.inr h)
def lo (p : Option ByteArray) (c : ByteArray) : Prop := ∀ b, p = some b → ltN b c = true
def loB : Option ByteArray → ByteArray → Bool
  | some b, c => ltN b c
  | none, _ => true
theorem entsFrom_loB (p : Option ByteArray) (e : Ent) (r : List Ent) : entsFrom p (e :: r) = (entOk e && loB p e.name && entsFrom (some e.name) r) := by cases p <;> rfl
theorem entsFrom_iff : ∀ {l : List Ent} {p : Option ByteArray}, entsFrom p l = true ↔ ((∀ e ∈ l, entOk e = true ∧ lo p e.name) ∧ l.Pairwise (fun a b => ltN a.name b.name = true))
  | [], _ => by simp [entsFrom]
  | e :: r, p => by
    have ih := @entsFrom_iff r (some e.name)
    have hlo : loB p e.name = true ↔ lo p e.name := by
      cases p with
      | none => simp [lo, loB]
      | some b => simp [lo, loB]
    rw [entsFrom_loB, Bool.and_eq_true, Bool.and_eq_true, hlo, ih, List.pairwise_cons]
    constructor
    · rintro ⟨⟨h1, h2⟩, h3, h4⟩
      refine ⟨fun x hx => ?_, fun x hx => (h3 x hx).2 _ rfl, h4⟩
      rcases List.mem_cons.1 hx with rfl | hx
      · exact ⟨h1, h2⟩
      · exact ⟨(h3 x hx).1, fun b hb => ltN_trans (h2 b hb) ((h3 x hx).2 _ rfl)⟩
    · rintro ⟨h1, h2, h3⟩
      exact ⟨h1 e (by simp), fun x hx => ⟨(h1 x (by simp [hx])).1, fun b hb => by obtain rfl := Option.some.inj hb; exact h2 x hx⟩, h3⟩
theorem ents_iff {l : List Ent} : entsOk l = true ↔ l.length ≤ 3 ∧ (∀ e ∈ l, entOk e = true) ∧ l.Pairwise (fun a b => ltN a.name b.name = true) := by
  simp only [entsOk, Bool.and_eq_true, decide_eq_true_eq]
  rw [entsFrom_iff]
  constructor
  · rintro ⟨h1, h2, h3⟩; exact ⟨h1, fun e he => (h2 e he).1, h3⟩
  · rintro ⟨h1, h2, h3⟩; exact ⟨h1, fun e he => ⟨h2 e he, fun b hb => by cases hb⟩, h3⟩

/-! ### The print that a name has -/
theorem child_none : ∀ (l : List Ent) (nm : ByteArray) (c : Int), (∀ e ∈ l, e.name ≠ nm) → l.foldl (fun c e => if e.name = nm then e.print else c) c = c
  | [], _, _, _ => rfl
  | e :: r, nm, c, h => by
    rw [List.foldl_cons, if_neg (h e (by simp))]
    exact child_none r nm c (fun x hx => h x (by simp [hx]))
theorem child_eq : ∀ {l : List Ent} {nm : ByteArray} (c : Int), l.Pairwise (fun a b => ltN a.name b.name = true) → l.foldl (fun c e => if e.name = nm then e.print else c) c = (firstOf l nm).getD c
  | [], _, _, _ => rfl
  | e :: r, nm, c, h => by
    obtain ⟨h1, h2⟩ := List.pairwise_cons.1 h
    rw [List.foldl_cons]
    unfold firstOf
    rw [List.find?_cons]
    by_cases he : e.name = nm
    · rw [if_pos he]
      simp only [he, decide_true]
      rw [child_none r nm _ (fun x hx e' => by have := h1 x hx; rw [he, e', ltN_irr] at this; cases this)]
      rfl
    · rw [if_neg he]
      simp only [he, decide_false]
      exact child_eq c h2
theorem child_first {l : List Ent} (h : entsOk l = true) (nm : ByteArray) : childOf l nm = (firstOf l nm).getD (-1) := child_eq (-1) (ents_iff.1 h).2.2
theorem first_mem {l : List Ent} {nm : ByteArray} {c : Int} (h : firstOf l nm = some c) : ⟨nm, c⟩ ∈ l := by
  unfold firstOf at h
  cases hf : l.find? (fun e => decide (e.name = nm)) with
  | none => rw [hf] at h; cases h
  | some e =>
    rw [hf] at h
    have h1 := List.mem_of_find?_eq_some hf
    have h2 := List.find?_some hf
    simp only [decide_eq_true_eq] at h2
    have h3 : e.print = c := Option.some.inj h
    obtain ⟨a, b⟩ := e
    simp only at h2 h3
    subst h2 h3
    exact h1
theorem first_iff {l : List Ent} (ho : entsOk l = true) {nm : ByteArray} {c : Int} : firstOf l nm = some c ↔ ⟨nm, c⟩ ∈ l := by
  refine ⟨first_mem, fun h => ?_⟩
  have hp := (ents_iff.1 ho).2.2
  clear ho
  induction l with
  | nil => simp at h
  | cons e r ih =>
    obtain ⟨h1, h2⟩ := List.pairwise_cons.1 hp
    unfold firstOf
    rw [List.find?_cons]
    rcases List.mem_cons.1 h with rfl | h
    · simp
    · have := h1 _ h
      have hne : e.name ≠ nm := by rintro rfl; simp only [ltN_irr] at this; cases this
      simp only [hne, decide_false]
      exact ih h h2
theorem first_pv {l : List Ent} (ho : entsOk l = true) {nm : ByteArray} {c : Int} (h : firstOf l nm = some c) : wordOk (bs nm) = true ∧ pv c = true := entOk_iff.1 (ents_all ho (first_mem h))
/-! ### Folders -/
theorem readFolder_emp : readFolder [] = none := readFolder_no (fun es h he => by rw [folder_on h] at he; cases he)
noncomputable def folderAt (s : List Pc) (pr : Int) : Option (List Ent) := (getP s pr).bind fun t => readFolder (bs t)
theorem folderAt_text (s : List Pc) (pr : Int) : readFolder (textAt s pr) = folderAt s pr := by
  unfold textAt folderAt
  cases getP s pr with
  | none => exact readFolder_emp
  | some t => rfl
theorem folderAt_ok {s : List Pc} {pr : Int} {es : List Ent} (h : folderAt s pr = some es) : entsOk es = true := by
  rw [← folderAt_text] at h
  exact (readFolder_some h).1
theorem folderAt_le {s x : List Pc} (h : Le s x) {pr : Int} {es : List Ent} (hf : folderAt s pr = some es) : folderAt x pr = some es := by
  unfold folderAt at hf ⊢
  cases hg : getP s pr with
  | none => rw [hg] at hf; cases hf
  | some t => rw [hg] at hf; rw [h _ _ hg]; exact hf
theorem entsOf_at (s : List Pc) (pr : Int) : entsOf (textAt s pr) = (folderAt s pr).getD [] := by unfold entsOf; rw [folderAt_text]
theorem folder_len {es : List Ent} (h : entsOk es = true) : (folderText es).length ≤ 49 := by
  rw [folder_on h]
  have h1 := (ents_in h).1
  have h2 : ∀ l : List Ent, (∀ e ∈ l, entOk e = true) → (entsText l).length ≤ 16 * l.length := by
    intro l
    induction l with
    | nil => intro _; simp [entsText]
    | cons e r ih =>
      intro hl
      have h3 := ih (fun x hx => hl x (by simp [hx]))
      have h4 : (bs e.name).length ≤ 8 := by
        have := (entOk_iff.1 (hl e (by simp))).1
        simp only [wordOk, Bool.and_eq_true, decide_eq_true_eq] at this
        omega
      have h5 := hexT_len e.print
      have h6 : entsText (e :: r) = entText e ++ entsText r := by simp [entsText]
      rw [h6]
      simp only [entText, List.length_append, List.length_cons, List.length_nil]
      omega
  have := h2 es (fun e he => ents_all h he)
  simp only [List.length_cons]
  omega
theorem tx_hex {c : UInt8} (h : (hexV c).isSome = true) : txCh c = true := by
  unfold hexV at h
  unfold txCh inB
  split at h
  · simp; omega
  · split at h
    · simp; omega
    · cases h
theorem tx_word {l : List UInt8} (h : wordOk l = true) {c : UInt8} (hc : c ∈ l) : txCh c = true := by
  simp only [wordOk, Bool.and_eq_true, decide_eq_true_eq] at h
  have := List.all_eq_true.1 h.2 c hc
  simp only [wordCh, isSm, isDig, inB, Bool.or_eq_true, Bool.and_eq_true, decide_eq_true_eq] at this
  unfold txCh inB
  simp
  omega
theorem folder_textOk {es : List Ent} (h : entsOk es = true) : textOk (folderText es) = true := by
  have hl := folder_len h
  unfold textOk
  rw [Bool.and_eq_true]
  refine ⟨by simp; omega, ?_⟩
  rw [List.all_eq_true]
  intro c hc
  rw [folder_on h] at hc
  rcases List.mem_cons.1 hc with rfl | hc
  · rfl
  · unfold entsText at hc
    obtain ⟨e, he, hc⟩ := List.mem_flatMap.1 hc
    have ho := entOk_iff.1 (ents_all h he)
    unfold entText at hc
    rcases List.mem_append.1 hc with hc | hc
    · exact tx_word ho.1 hc
    · rcases List.mem_cons.1 hc with rfl | hc
      · rfl
      · rcases List.mem_append.1 hc with hc | hc
        · exact tx_hex (hexT_ch hc)
        · simp at hc; subst hc; rfl
theorem file_textOk {c : List UInt8} (h : contOk c = true) : textOk (fileText c) = true ∧ isFile (fileText c) = true := by
  have hf : fileText c = 102 :: c := by unfold fileText; rw [if_pos h]
  have h0 := h
  unfold contOk textOk at h
  simp only [Bool.and_eq_true, decide_eq_true_eq] at h
  rw [hf]
  constructor
  · unfold textOk
    rw [Bool.and_eq_true]
    refine ⟨by simp; omega, ?_⟩
    rw [List.all_cons, h.1.2]; rfl
  · unfold isFile; simp [h0]
theorem file_no_folder {l : List UInt8} (h : isFile l = true) : readFolder l = none := by
  refine readFolder_no (fun es ho ht => ?_)
  rw [folder_on ho] at ht
  subst ht
  simp [isFile] at h
theorem readFolder_self {es : List Ent} (h : entsOk es = true) : readFolder (folderText es) = some es := readFolder_yes h rfl

/-! ### Ways -/
noncomputable def folderQ (s : List Pc) : Option Int → Option (List Ent)
  | some pr => folderAt s pr
  | none => some []
theorem folderQ_ok {s : List Pc} {q : Option Int} {es : List Ent} (h : folderQ s q = some es) : entsOk es = true := by
  cases q with
  | none => simp [folderQ] at h; subst h; rfl
  | some pr => exact folderAt_ok h
noncomputable def wayW (s : List Pc) : Option Int → List ByteArray → Option (List (List Ent) × Option Int)
  | q, [] => some ([], q)
  | q, nm :: r => match folderQ s q with
    | none => none
    | some es => match wayW s (firstOf es nm) r with | none => none | some (F, z) => some (es :: F, z)
/-- What is put on the way back, the last folder first; the print of the first one. -/
def upT : List (List Ent × ByteArray) → Int → Option (List ByteArray × Int)
  | [], pr => some ([], pr)
  | (es, nm) :: r, pr => match upT r pr with
    | none => none
    | some (T, ch) => if (putEnt es ⟨nm, ch⟩).2 then some (T ++ [strL (folderText (putEnt es ⟨nm, ch⟩).1)], printOf (folderText (putEnt es ⟨nm, ch⟩).1)) else none
noncomputable def leafOk (s : List Pc) (z : Option Int) : Bool := match z with | none => true | some c => hasP s c && isFile (textAt s c)
theorem way_len : ∀ (parts : List ByteArray) (s : List Pc) (q : Option Int) (F : List (List Ent)) (z : Option Int), wayW s q parts = some (F, z) → F.length = parts.length
  | [], s, q, F, z, h => by simp [wayW] at h; rw [h.1]; rfl
  | nm :: r, s, q, F, z, h => by
    unfold wayW at h
    split at h
    · cases h
    · split at h
      · cases h
      · rename_i es _ _ F' z' hw
        simp only [Option.some.injEq, Prod.mk.injEq] at h
        rw [← h.1, List.length_cons, List.length_cons, way_len r s _ F' z' hw]
theorem putEnt_ok {es : List Ent} {e : Ent} (h : (putEnt es e).2 = true) : entsOk es = true ∧ entsOk (putE es e) = true ∧ (putEnt es e).1 = putE es e := by
  unfold putEnt at h ⊢
  split at h
  · rename_i h1
    split at h
    · rename_i h2
      rw [if_pos h1, if_pos h2]
      exact ⟨h1, h2, rfl⟩
    · cases h
  · cases h
theorem badLeaf_eq (s : List Pc) (c : Int) : badLeaf s c = !(hasP s c && isFile (textAt s c)) := by
  unfold badLeaf kindOf
  cases hasP s c
  · simp
  · cases isFile (textAt s c)
    · simp only [Bool.not_true, Bool.false_or, Bool.and_false, Bool.not_false, decide_eq_true_eq, Bool.false_eq_true, if_false]
      split <;> decide
    · simp
theorem hasP_pv {s : List Pc} (hs : storeOk s = true) {c : Int} (h : hasP s c = true) : 0 ≤ c := by
  obtain ⟨x, hx, rfl⟩ := hasP_iff.1 h
  exact (pcOk_pv (st_all hs hx)).1

/-- The reference's writing on the way back, as texts put. -/
def setTo (s : List Pc) (parts : List ByteArray) (leaf : Int) (W : Option (List (List Ent) × Option Int)) (lk : Option Int → Bool) (R : List Pc × Int × Bool) : Prop :=
  match W with
  | none => R.2.2 = false
  | some (F, z) => if parts ≠ [] ∧ lk z = false then R.2.2 = false else match upT (F.zip parts) leaf with
    | none => R.2.2 = false
    | some (T, p) => match putAll s T with
      | none => R.2.2 = false
      | some s' => R = (s', p, true)
theorem set_way {s : List Pc} (hs : storeOk s = true) (leaf : Int) : ∀ (parts : List ByteArray) (q : Option Int), (∀ p, q = some p → 0 ≤ p) → setTo s parts leaf (wayW s q parts) (leafOk s) (setAt s (q.getD (-1)) parts leaf)
  | [], q, _ => by
    show setTo s [] leaf (some ([], q)) _ _
    simp [setTo, upT, putAll, setAt]
  | nm :: rest, q, hq => by
    have hr : (if 0 ≤ q.getD (-1) then readFolder (textAt s (q.getD (-1))) else some []) = folderQ s q := by
      cases q with
      | none => rfl
      | some p => simp only [Option.getD_some]; rw [if_pos (hq p rfl), folderAt_text]; rfl
    unfold wayW setAt
    rw [hr]
    cases hes : folderQ s q with
    | none => simp [setTo]
    | some es =>
      have ho : entsOk es = true := folderQ_ok hes
      simp only []
      rw [child_first ho nm]
      have ih := set_way hs leaf rest (firstOf es nm) (fun p hp => (pv_iff.1 (first_pv ho hp).2).1)
      have hbad : rest = [] → ((rest = [] ∧ 0 ≤ (firstOf es nm).getD (-1) ∧ badLeaf s ((firstOf es nm).getD (-1)) = true) ↔ leafOk s (firstOf es nm) = false) := by
        intro h0
        cases hf : firstOf es nm with
        | none => simp [leafOk]
        | some c =>
          have hc := (pv_iff.1 (first_pv ho hf).2).1
          simp only [Option.getD_some, leafOk, badLeaf_eq, Bool.not_eq_true', h0, true_and]
          exact ⟨fun h => h.2, fun h => ⟨hc, h⟩⟩
      cases hw : wayW s (firstOf es nm) rest with
      | none =>
        rw [hw] at ih
        simp only [setTo] at ih ⊢
        rcases Decidable.em (rest = []) with h0 | h0
        · subst h0; simp [wayW] at hw
        · rw [if_neg (fun h => h0 h.1), if_pos ih]
      | some FZ =>
        obtain ⟨F, z⟩ := FZ
        rw [hw] at ih
        simp only [setTo] at ih ⊢
        have hzz : rest = [] → z = firstOf es nm := by
          rintro rfl; simp [wayW] at hw; exact hw.2.symm
        by_cases hlk : leafOk s z = false
        · rw [if_pos ⟨by simp, hlk⟩]
          rcases Decidable.em (rest = []) with h0 | h0
          · rw [if_pos ((hbad h0).2 (by rw [← hzz h0]; exact hlk))]
          · rw [if_pos ⟨h0, hlk⟩] at ih
            rw [if_neg (fun h => h0 h.1), if_pos ih]
        · rw [if_neg (fun h => hlk h.2)]
          rw [if_neg (fun h => hlk h.2)] at ih
          have hnb : ¬ (rest = [] ∧ 0 ≤ (firstOf es nm).getD (-1) ∧ badLeaf s ((firstOf es nm).getD (-1)) = true) := by
            intro h
            have := (hbad h.1).1 h
            rw [← hzz h.1] at this
            exact hlk this
          rw [if_neg hnb]
          rw [List.zip_cons_cons]
          simp only [upT]
          cases hu : upT (F.zip rest) leaf with
          | none => rw [hu] at ih; simp only [] at ih ⊢; rw [if_pos ih]
          | some TP =>
            obtain ⟨T, p⟩ := TP
            rw [hu] at ih
            simp only [] at ih ⊢
            cases hpa : putAll s T with
            | none =>
              rw [hpa] at ih
              simp only [] at ih
              rw [if_pos ih]
              by_cases hpe : (putEnt es ⟨nm, p⟩).2 = true
              · rw [if_pos hpe]
                simp only []
                rw [putAll_append, hpa]
                simp only [Option.bind_none]
              · rw [if_neg hpe]
            | some s1 =>
              rw [hpa] at ih
              simp only [] at ih
              rw [ih]
              simp only [Bool.true_eq_false, if_false]
              by_cases hpe : (putEnt es ⟨nm, p⟩).2 = true
              · rw [if_neg (show ¬ (putEnt es ⟨nm, p⟩).2 = false by rw [hpe]; simp), if_pos hpe]
                simp only []
                rw [putAll_append, hpa]
                simp only [Option.bind_some]
                rw [putAll_one]
                have hs1 := (putAll_le hs hpa).1
                by_cases hput : (putS s1 (strL (folderText (putEnt es ⟨nm, p⟩).1))).2.2 = true
                · rw [if_pos hput]
                  have := (put_get hs1 hput).2.2.1
                  rw [bs_strL] at this
                  simp only []
                  rw [← this, ← hput]
                · rw [if_neg hput]
                  simp only []
                  simpa using hput
              · rw [if_neg hpe, if_pos (show (putEnt es ⟨nm, p⟩).2 = false by simpa using hpe)]

/-- A write: the way, what is put on the way back, and the file. -/
noncomputable def writeTo (s : List Pc) (root : Int) (ws : List ByteArray) (content : List UInt8) : Option (List Pc × Int) :=
  match wayW s (some root) ws with
  | none => none
  | some (F, z) => if leafOk s z = false then none else match upT (F.zip ws) (printOf (fileText content)) with
    | none => none
    | some (T, p) => match putAll s (strL (fileText content) :: T) with
      | none => none
      | some s' => some (s', p)
theorem writeAt_eq {s : List Pc} {root : Int} {path content : List UInt8} {ws : List (List UInt8)} (hs : storeOk s = true) (hp : pathParts path = some ws) (h0 : ws ≠ []) (hc : contOk content = true) :
    writeAt s root path content = match writeTo s root (ws.map strL) content with | none => (s, root, false) | some (s', p) => (s', p, true) := by
  have h0' : ws.map strL ≠ [] := by simpa using h0
  unfold writeAt
  rw [hp]
  simp only []
  rw [if_neg (fun h => h.elim (fun h => by rw [hs] at h; cases h) (fun h => h.elim h0 (fun h => by rw [hc] at h; cases h)))]
  unfold writeTo
  by_cases hr : hasP s root = false
  · rw [if_pos hr]
    have hw : wayW s (some root) (ws.map strL) = none := by
      cases hl : ws.map strL with
      | nil => exact absurd hl h0'
      | cons nm r =>
        have hg : getP s root = none := by unfold hasP at hr; simpa using hr
        have : folderAt s root = none := by unfold folderAt; rw [hg]; rfl
        simp [wayW, folderQ, this]
    rw [hw]
  · rw [if_neg hr]
    have hr1 : hasP s root = true := by simpa using hr
    have hset := set_way hs (printOf (fileText content)) (ws.map strL) (some root) (fun p hp => by obtain rfl := Option.some.inj hp; exact hasP_pv hs hr1)
    simp only [Option.getD_some] at hset
    cases hw : wayW s (some root) (ws.map strL) with
    | none =>
      rw [hw] at hset
      simp only [setTo] at hset
      rw [if_pos hset]
    | some FZ =>
      obtain ⟨F, z⟩ := FZ
      rw [hw] at hset
      simp only [setTo] at hset ⊢
      by_cases hlk : leafOk s z = false
      · rw [if_pos ⟨h0', hlk⟩] at hset
        rw [if_pos hset, if_pos hlk]
      · rw [if_neg (fun h => hlk h.2)] at hset
        rw [if_neg hlk]
        cases hu : upT (F.zip (ws.map strL)) (printOf (fileText content)) with
        | none => rw [hu] at hset; simp only [] at hset ⊢; rw [if_pos hset]
        | some TP =>
          obtain ⟨T, p⟩ := TP
          rw [hu] at hset
          simp only [] at hset ⊢
          rw [putAll_same (T' := T ++ [strL (fileText content)]) hs (fun t => by simp [or_comm]), putAll_append]
          cases hpa : putAll s T with
          | none => rw [hpa] at hset; simp only [] at hset; rw [if_pos hset]; rfl
          | some s1 =>
            rw [hpa] at hset
            simp only [] at hset
            rw [hset]
            simp only [Bool.true_eq_false, if_false, Option.bind_some]
            rw [putAll_one]
            by_cases hput : (putS s1 (strL (fileText content))).2.2 = true
            · rw [if_neg (by simp [hput]), if_pos hput]
            · rw [if_pos (by simpa using hput), if_neg hput]

end Go.Proofs.YtachfmlfmpaddaaGreatDoor
