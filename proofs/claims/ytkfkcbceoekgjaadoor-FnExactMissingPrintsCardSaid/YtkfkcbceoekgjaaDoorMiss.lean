/- Walks: the prints that are missing. -/
import Derived.Test.YtkfkcbceoekgjaaDoorNamed
namespace Go.Proofs.YtkfkcbceoekgjaaDoor
open Go.RowKit

theorem wantFrom_snoc (l : List Pc) (ns : List Int) (n : Int) : wantFrom l (ns ++ [n]) = wantStep l (wantFrom l ns) n := by
  unfold wantFrom; rw [List.foldl_append]; rfl
theorem missingOf_off {l : List Pc} (h : storeOk l = false) : missingOf l = [] := by unfold missingOf wantedOf; rw [h]; rfl
theorem missingOf_on {l : List Pc} (h : storeOk l = true) : missingOf l = wantFrom l (named l) := by unfold missingOf wantedOf; rw [h]; rfl
theorem missingOf_len {l : List Pc} : (missingOf l).length ≤ 120 := by
  cases h : storeOk l
  · rw [missingOf_off h]; simp
  · rw [missingOf_on h]
    have h1 := wantFrom_len l (named l) []
    have h2 := named_len l
    have h3 := (st_in h).1
    unfold wantFrom
    simp only [List.length_nil] at h1
    omega

set_option maxHeartbeats 2000000 in
set_option maxRecDepth 100000 in
theorem impl_MissingPrints_c (v : Value) (xs : List Pc) (w : World) (h : Pcs w w.heap.size v xs) (hx0 : ∀ x ∈ xs, x.text.size ≤ 1048576) (hl0 : xs.length ≤ 1048576) (hg : Glob w) :
    Calls Tryd.prog 19 #[v] w fun e w' => ∃ v', e = .returned v' ∧ OwnI w' w.heap.size v' (missingOf xs) ∧ Below w.heap.size w w' := by
  obtain ⟨n, hn⟩ : ∃ n, xs.length = n := ⟨_, rfl⟩
  obtain ⟨a, c, rfl, _, _, _⟩ := h.pcs hn
  have HP : Hid (∀ wx, Below w.heap.size w wx → Pcs wx wx.heap.size (.slice a n c) xs) := fun wx hx' => h.on hx'
  have HL := hid hl0
  have HG := hid hg
  clear hn hx0 hg
  cases hok : storeOk xs
  · have HO := hid (missingOf_off hok)
    go_enter Tryd.func19, Tryd.ntmps19
    go_wp2_with fail
    refine (impl_StoreValid_c _ xs _ h).mono ?_
    rw [hok]
    rintro e w1 ⟨rfl, b1⟩
    go_wp2
    go_ret
    exact ⟨_, rfl, by rw [HO.out]; exact Own.nil_, b1⟩
  · have HO := hid (missingOf_on hok)
    have HK := hid hok
    have HX := hid (fun (x : Pc) (hx : x ∈ xs) => show x.text.size ≤ 1000000 by have := textOk_size (pcOk_iff.1 (st_all hok hx)).1; omega)
    obtain ⟨ns, hns⟩ : ∃ ns, named xs = ns := ⟨_, rfl⟩
    have HNS := hid hns
    obtain ⟨m, hm⟩ : ∃ m, ns.length = m := ⟨_, rfl⟩
    have HM := hid hm
    have hl : m ≤ 3145728 := by have := named_len xs; rw [hns, hm] at this; omega
    clear hns
    go_enter Tryd.func19, Tryd.ntmps19
    go_wp2_with fail
    refine (impl_StoreValid_c _ xs _ h).mono ?_
    rw [hok]
    rintro e w0 ⟨rfl, b0⟩
    clear hok h
    go_wp2_with fail
    refine (impl_namedPrints_c _ xs _ (HP.out _ b0) HX.out HL.out (HG.out.on b0)).mono ?_
    rw [HNS.out]
    rintro e w1 ⟨nv, rfl, o1, b1'⟩
    have b1 := bl_then b0 b1'
    have hs1 := b1.size
    have hrd := Rd.of_own o1
    obtain ⟨a', c', rfl, _, _, h3⟩ := hrd.ints hm
    clear b1' o1 hrd hm
    go_wp2
    go_loopw [3, 14] (fun out i wr => ∃ (k : Nat) (acc : List Int), k ≤ m ∧ i = .int .i64 k ∧ OwnI wr w1.heap.size out acc ∧ Hid (acc = wantFrom xs (ns.take k)) ∧ acc.length ≤ k ∧ Below w1.heap.size w1 wr) (fun _ i _ => m - (intOf i).toNat)
    case atStart => exact ⟨0, [], Nat.zero_le _, rfl, Own.nil_, rfl, Nat.zero_le _, Below.refl _ _⟩
    case round =>
      obtain ⟨k, acc, hk, rfl, hown, hacc, hlen, hb⟩ := hrel
      have c1 := bl_then b1 hb
      by_cases hlt : k < m
      · obtain ⟨b, o, x, rfl, hbl, hx, k0⟩ := h3 k hlt
        have j0 := (hb.cell (p := ⟨b, o + k, none⟩) hbl).trans k0
        have HF := hid ((wantFrom_succ (l := xs) hx.out).trans (by rw [← hacc.out]))
        clear k0 h3
        obtain ⟨y, hy⟩ : ∃ y, hasP xs x = y := ⟨_, rfl⟩
        have HY := hid hy
        clear hy
        go_wp2_with fail
        refine (impl_findPiece_c _ xs x _ (HP.out _ c1) HK.out).mono ?_
        rw [HY.out]
        rintro e w4 ⟨rfl, b4⟩
        have hown4 := hown.on b4
        have hb4 := hb.trans (b4.mono hb.size)
        have hB4 := hb4.size
        clear b4 hown hb
        cases y
        · obtain ⟨z, hz⟩ : ∃ z, hasI acc x = z := ⟨_, rfl⟩
          have HZ := hid hz
          clear hz
          go_wp2_with fail
          refine (slices_Contains_c _ acc x _ _ (Rd.of_own hown4)).mono ?_
          rw [HZ.out]
          rintro e w5 ⟨rfl, rfl⟩
          cases z
          · have HS := hid (show wantStep xs acc x = acc ++ [x] by unfold wantStep; rw [HY.out, HZ.out]; rfl)
            go_wp2_with (at_builtin; refine push_int (w0 := w1) rfl _ _ rfl _ _ _ _ _ hown4 hb4 hB4 (Nat.le_refl _) rfl rfl (by omega) ?_; intro v' w' hown' hb' hB' _)
            go_roundw
            case rel => exact ⟨k + 1, _, by omega, by go_num, hown', hid (HF.out.trans HS.out).symm, by simp; omega, hb'⟩
            case measure => simp [intOf]; omega
          · have HS := hid (show wantStep xs acc x = acc by unfold wantStep; rw [HY.out, HZ.out]; rfl)
            go_wp2
            go_roundw
            case rel => exact ⟨k + 1, _, by omega, by go_num, hown4, hid (HF.out.trans HS.out).symm, by omega, hb4⟩
            case measure => simp [intOf]; omega
        · have HS := hid (show wantStep xs acc x = acc by unfold wantStep; rw [HY.out]; rfl)
          go_wp2
          go_roundw
          case rel => exact ⟨k + 1, _, by omega, by go_num, hown4, hid (HF.out.trans HS.out).symm, by omega, hb4⟩
          case measure => simp [intOf]; omega
      · have HA := hid (show acc = missingOf xs by rw [HO.out, HNS.out, hacc.out, take_all HM.out (show m ≤ k by omega)])
        go_wp2
        go_ret
        exact ⟨_, rfl, by rw [← HA.out]; exact hown.less hs1, c1⟩

set_option maxHeartbeats 2000000 in
set_option maxRecDepth 100000 in
theorem spec_MissingPrints_c (v : Value) (xs : List Pc) (w : World) (h : Pcs w w.heap.size v xs) (hx0 : ∀ x ∈ xs, x.text.size ≤ 1048576) (hl0 : xs.length ≤ 1048576) :
    Calls Tryd.prog 18 #[v] w fun e w' => ∃ v', e = .returned v' ∧ OwnI w' w.heap.size v' (missingOf xs) ∧ Below w.heap.size w w' := by
  obtain ⟨n, hn⟩ : ∃ n, xs.length = n := ⟨_, rfl⟩
  obtain ⟨a, c, rfl, _, _, h3⟩ := h.pcs hn
  have HN := hid hn
  have HX1 := hid hx0
  have HL := hid hl0
  have HP : Hid (∀ wx, Below w.heap.size w wx → Pcs wx wx.heap.size (.slice a n c) xs) := fun wx hx' => h.on hx'
  rw [hn] at hl0
  clear hn h hx0
  have hal : Below w.heap.size w (w.alloc (.cells #[] 3)) := (Below.refl _ _).alloc (Nat.le_refl _) _
  have hown0 : OwnI (w.alloc (.cells #[] 3)) w.heap.size (.slice (some ⟨w.heap.size, 0, none⟩) 0 0) [] := Own.made _ (Nat.le_refl _)
  cases hok : storeOk xs
  · have HO := hid (missingOf_off hok)
    have HK := hid hok
    clear hok h3
    by_cases h0 : 0 < n
    · go_enter Tryd.func18, Tryd.ntmps18
      go_wp2
      refine wp_loop_rounds 1 ?_
      rw [rounds_succ]
      go_wp2_with (go_at_call 24; refine (spec_StoreValid_c _ xs _ _ (HP.out _ hal) HX1.out HL.out).mono ?_; rw [HK.out]; rintro e w' ⟨rfl, q, rfl⟩)
      go_ret
      exact ⟨_, rfl, by rw [HO.out]; exact hown0.drewN q, bl_drewN hal q⟩
    · go_enter Tryd.func18, Tryd.ntmps18
      go_wp2
      refine wp_loop_rounds 1 ?_
      rw [rounds_succ]
      go_wp2
      go_ret
      exact ⟨_, rfl, by rw [HO.out]; exact hown0, hal⟩
  · have HO := hid (missingOf_on hok)
    have HK := hid hok
    have HX := hid (fun (x : Pc) (hx : x ∈ xs) => show x.text.size ≤ 1000000 by have := textOk_size (pcOk_iff.1 (st_all hok hx)).1; omega)
    clear hok
    go_enter Tryd.func18, Tryd.ntmps18
    go_wp2
    go_loopw [3, 4] (fun out i wr => ∃ (k : Nat) (acc : List Int), k ≤ n ∧ i = .int .i64 k ∧ OwnI wr w.heap.size out acc ∧ Hid (acc = wantFrom xs (named (xs.take k))) ∧ acc.length ≤ 3 * k ∧ Below w.heap.size w wr) (fun _ i _ => n - (intOf i).toNat)
    case atStart => exact ⟨0, [], Nat.zero_le _, rfl, hown0, rfl, Nat.zero_le _, hal⟩
    case round =>
      obtain ⟨k, acc, hk, rfl, hown, hacc, hlen, hb⟩ := hrel
      clear hown0 hal
      by_cases hlt : k < n
      · obtain ⟨b, o, r, t, rfl, hbl, hx, k0, k1⟩ := h3 k hlt
        have HT := hid (HX.out _ (List.mem_of_getElem? hx.out))
        have HA := hid (named_succ hx.out)
        obtain ⟨es, hes⟩ : ∃ es, entsOf (bs t) = es := ⟨_, rfl⟩
        have HES := hid hes
        have hm3 := entsOf_len (bs t)
        rw [hes] at hm3
        obtain ⟨m, hm⟩ : ∃ m, es.length = m := ⟨_, rfl⟩
        have HM := hid hm
        have hm4 : m ≤ 3 := by omega
        have HK1 := hid k1
        clear k0 k1 h3 hes hm3
        go_wp2_with fail
        refine (spec_StoreValid_c _ xs _ _ (HP.out _ hb) HX1.out HL.out).mono ?_
        rw [HK.out]
        rintro e w3 ⟨rfl, q, rfl⟩
        obtain ⟨W1, hW1⟩ : ∃ W1, W1 = wr.drewN q := ⟨_, rfl⟩
        have hb1 : Below w.heap.size w W1 := by rw [hW1]; exact bl_drewN hb q
        have hown1 := hown.drewN q
        rw [← hW1] at hown1
        rw [← hW1]
        have j1 := (hb1.cell (p := ⟨b, o + k * 2 + 1, none⟩) hbl).trans HK1.out
        clear hW1 hown hb
        go_wp2_with fail
        refine (spec_ReadFolder_c t _ HT.out).mono ?_
        rw [HES.out]
        rintro e w4 ⟨lv, rfl, o4, b4⟩
        have hown4 := hown1.on b4
        have hb4 := bl_then hb1 b4
        have hlt4 := hid o4.lt
        have hpb := hid fun g hg => (hown1.lt g hg).2
        have hsz4 := b4.size
        obtain ⟨la, lc, rfl, _, _, _⟩ := (Rd.of_own o4).ents hm
        clear b4 hm hown1 j1
        go_wp2
        go_loopw [3, 7] (fun pv i wr2 => ∃ (j : Nat) (acc2 : List Int), j ≤ m ∧ i = .int .i64 j ∧ OwnI wr2 w.heap.size pv acc2 ∧ Hid (acc2 = wantFrom xs (named (xs.take k) ++ (es.map (·.print)).take j)) ∧ acc2.length ≤ 3 * k + j ∧ OwnE wr2 W1.heap.size (.slice la m lc) es ∧ Hid (∀ g, pv.ownBlock = some g → g < W1.heap.size ∨ w4.heap.size ≤ g) ∧ Below w.heap.size w wr2 ∧ w4.heap.size ≤ wr2.heap.size) (fun _ i _ => m - (intOf i).toNat)
        case atStart => exact ⟨0, acc, Nat.zero_le _, rfl, hown4, by unfold Hid; rw [hacc.out, List.take_zero, List.append_nil], by omega, o4, hid fun g hg => .inl (hpb.out g hg), hb4, Nat.le_refl _⟩
        case round =>
          obtain ⟨j, acc2, hj, rfl, hown2, hacc2, hlen2, hol, hpb2, hb2, hsz2⟩ := hrel
          clear o4 hown4 hb4
          by_cases hjm : j < m
          · obtain ⟨_, _, hv, _, _, hcs⟩ := (Rd.of_own hol).ents HM.out
            simp only [Value.slice.injEq] at hv
            obtain ⟨e1, _, e2⟩ := hv
            subst e1
            subst e2
            obtain ⟨eb, eo, nm, pr, rfl, hebl, hex, c0, c1⟩ := hcs j hjm
            have HA2 := hid (show named (xs.take k) ++ (es.map (·.print)).take (j + 1) = (named (xs.take k) ++ (es.map (·.print)).take j) ++ [pr] by rw [take_snoc' (x := pr) (by rw [List.getElem?_map, hex.out]; rfl), List.append_assoc])
            have HF2 := hid ((congrArg (wantFrom xs) HA2.out).trans ((wantFrom_snoc _ _ _).trans (by rw [← hacc2.out])))
            have hB3 := hb2.size
            obtain ⟨y, hy⟩ : ∃ y, hasP xs pr = y := ⟨_, rfl⟩
            have HY := hid hy
            clear hcs hy
            go_wp2_with fail
            refine (spec_l4Get_c _ xs pr _ _ (HP.out _ hb2)).mono ?_
            rw [HY.out]
            rintro e w5 ⟨rfl, rfl⟩
            cases y
            · obtain ⟨z, hz⟩ : ∃ z, hasI acc2 pr = z := ⟨_, rfl⟩
              have HZ := hid hz
              clear hz
              go_wp2_with fail
              refine (spec_l19Has_c _ acc2 pr _ _ (Rd.of_own hown2)).mono ?_
              rw [HZ.out]
              rintro e w5 ⟨rfl, rfl⟩
              cases z
              · have HS := hid (show wantStep xs acc2 pr = acc2 ++ [pr] by unfold wantStep; rw [HY.out, HZ.out]; rfl)
                go_wp2_with (at_builtin; refine push_int (w0 := w) rfl _ _ rfl w.heap.size w.heap.size _ acc2 pr hown2 hb2 hB3 (Nat.le_refl _) rfl rfl (by omega) ?_; intro v' w' hown' hb' hB' hg')
                go_roundw
                case rel =>
                  have hne : (Value.slice (some ⟨eb, eo, none⟩) m lc).ownBlock = none ∨ (Value.slice (some ⟨eb, eo, none⟩) m lc).ownBlock ≠ Value.ownBlock _ := .inr (fun e => by
                    have h5 := hlt4.out eb rfl
                    rcases hpb2.out eb e.symm with h6 | h6
                    · omega
                    · omega)
                  have hsz3 : w4.heap.size ≤ w'.heap.size := by have := hg'.1.size; omega
                  refine ⟨j + 1, _, by omega, by go_num, hown', hid (HF2.out.trans HS.out).symm, by simp; omega, Own.kept hol hg'.1 hne, hid fun g hg => ?_, hb', hsz3⟩
                  rcases hg'.2 g hg with h6 | h6
                  · exact hpb2.out g h6
                  · exact .inr (by omega)
                case measure => simp [intOf]; omega
              · have HS := hid (show wantStep xs acc2 pr = acc2 by unfold wantStep; rw [HY.out, HZ.out]; rfl)
                go_wp2
                go_roundw
                case rel => exact ⟨j + 1, _, by omega, by go_num, hown2, hid (HF2.out.trans HS.out).symm, by omega, hol, hpb2, hb2, hsz2⟩
                case measure => simp [intOf]; omega
            · have HS := hid (show wantStep xs acc2 pr = acc2 by unfold wantStep; rw [HY.out]; rfl)
              go_wp2
              go_roundw
              case rel => exact ⟨j + 1, _, by omega, by go_num, hown2, hid (HF2.out.trans HS.out).symm, by omega, hol, hpb2, hb2, hsz2⟩
              case measure => simp [intOf]; omega
          · have HF := hid (show acc2 = wantFrom xs (named (xs.take (k + 1))) by
              have e9 : (es.map (·.print)).take j = es.map (·.print) := List.take_of_length_le (by rw [List.length_map, HM.out]; omega)
              rw [hacc2.out, HA.out, e9]; unfold prs; rw [HES.out])
            go_wp2
            go_roundw
            case rel => exact ⟨k + 1, acc2, by omega, by go_num, hown2, HF, by omega, hb2⟩
            case measure => simp [intOf]; omega
      · have HA := hid (show acc = missingOf xs by rw [HO.out, hacc.out, take_all HN.out (show n ≤ k by omega)])
        go_wp2
        go_ret
        exact ⟨_, rfl, by rw [← HA.out]; exact hown, hb⟩

end Go.Proofs.YtkfkcbceoekgjaaDoor
