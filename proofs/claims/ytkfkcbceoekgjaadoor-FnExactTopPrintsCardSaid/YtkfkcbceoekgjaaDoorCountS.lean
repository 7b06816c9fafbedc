/- Walks: how many entries name each piece, the reference's way. -/
import Derived.Test.YtkfkcbceoekgjaaDoorCount
import Derived.Test.YtkfkcbceoekgjaaDoorReadS
namespace Go.Proofs.YtkfkcbceoekgjaaDoor
open Go.RowKit

set_option maxHeartbeats 2000000 in
set_option maxRecDepth 100000 in
theorem spec_NameCounts_c (v : Value) (xs : List Pc) (w : World) (h : Pcs w w.heap.size v xs) (hx0 : ∀ x ∈ xs, x.text.size ≤ 1048576) (hl0 : xs.length ≤ 1048576) :
    Calls Tryd.prog 8 #[v] w fun e w' => ∃ v', e = .returned v' ∧ OwnI w' w.heap.size v' (countsOf xs) ∧ Below w.heap.size w w' := by
  obtain ⟨n, hn⟩ : ∃ n, xs.length = n := ⟨_, rfl⟩
  obtain ⟨a, c, rfl, h1, h2, h3⟩ := h.pcs hn
  have HN := hid hn
  have HX1 := hid hx0
  have HL := hid hl0
  have HP : Hid (∀ wx, Below w.heap.size w wx → Pcs wx wx.heap.size (.slice a n c) xs) := fun wx hx' => h.on hx'
  rw [hn] at hl0
  clear hn h hx0
  have hal : Below w.heap.size w (w.alloc (.cells #[] 3)) := (Below.refl _ _).alloc (Nat.le_refl _) _
  have hown0 : OwnI (w.alloc (.cells #[] 3)) w.heap.size (.slice (some ⟨w.heap.size, 0, none⟩) 0 0) [] := Own.made _ (Nat.le_refl _)
  cases hok : storeOk xs
  · have HO := hid (countsOf_off hok)
    have HK := hid hok
    clear hok h3
    by_cases h0 : 0 < n
    · go_enter Tryd.func8, Tryd.ntmps8
      go_wp2
      refine wp_loop_rounds 1 ?_
      rw [rounds_succ]
      go_wp2_with (go_at_call 24; refine (spec_StoreValid_c _ xs _ _ (HP.out _ hal) HX1.out HL.out).mono ?_; rw [HK.out]; rintro e w' ⟨rfl, q, rfl⟩)
      go_ret
      exact ⟨_, rfl, by rw [HO.out]; exact hown0.drewN q, bl_drewN hal q⟩
    · go_enter Tryd.func8, Tryd.ntmps8
      go_wp2
      refine wp_loop_rounds 1 ?_
      rw [rounds_succ]
      go_wp2
      go_ret
      exact ⟨_, rfl, by rw [HO.out]; exact hown0, hal⟩
  · have HO := hid (countsOf_on hok)
    have HK := hid hok
    have HX := hid (fun (x : Pc) (hx : x ∈ xs) => show x.text.size ≤ 1000000 by have := textOk_size (pcOk_iff.1 (st_all hok hx)).1; omega)
    have hn40 : n ≤ 40 := by have := (st_in hok).1; have := HN.out; omega
    have H3 := hid h3
    clear hok h3 hl0
    go_enter Tryd.func8, Tryd.ntmps8
    go_wp2
    go_loopw [3, 4] (fun out i wr => ∃ (k : Nat) (acc : List Int), k ≤ n ∧ i = .int .i64 k ∧ OwnI wr w.heap.size out acc ∧ Hid (acc = (countsOf xs).take k) ∧ acc.length ≤ k ∧ Below w.heap.size w wr) (fun _ i _ => n - (intOf i).toNat)
    case atStart => exact ⟨0, [], Nat.zero_le _, rfl, hown0, rfl, Nat.zero_le _, hal⟩
    case round =>
      obtain ⟨k, acc, hk, rfl, hown, hacc, hlen, hb⟩ := hrel
      clear hown0 hal
      by_cases hlt : k < n
      · obtain ⟨b, o, r, t, rfl, hbl, hx, k0, _⟩ := H3.out k hlt
        have HCK := hid (take_snoc' (show (countsOf xs)[k]? = some ((((named xs).count r : Nat) : Int)) by rw [HO.out]; exact cnt_get (named xs) hx.out))
        have HK0 := hid k0
        clear k0
        go_wp2_with fail
        refine (spec_StoreValid_c _ xs _ _ (HP.out _ hb) HX1.out HL.out).mono ?_
        rw [HK.out]
        rintro e w3 ⟨rfl, q, rfl⟩
        obtain ⟨W1, hW1⟩ : ∃ W1, W1 = wr.drewN q := ⟨_, rfl⟩
        have hb1 : Below w.heap.size w W1 := by rw [hW1]; exact bl_drewN hb q
        have hown1 := hown.drewN q
        rw [← hW1] at hown1
        rw [← hW1]
        clear hW1 hown hb
        go_wp2
        go_loopw [5, 6] (fun mv i wr2 => ∃ (j z : Nat), j ≤ n ∧ i = .int .i64 j ∧ mv = .int .i64 z ∧ Hid (z = (named (xs.take j)).count r) ∧ z ≤ 3 * j ∧ Below W1.heap.size W1 wr2) (fun _ i _ => n - (intOf i).toNat)
        case atStart => exact ⟨0, 0, Nat.zero_le _, rfl, rfl, rfl, Nat.zero_le _, Below.refl _ _⟩
        case round =>
          obtain ⟨j, z, hj, rfl, rfl, hz, hz9, hb2⟩ := hrel
          have hB2 := bl_then hb1 hb2
          by_cases hjn : j < n
          · obtain ⟨b', o', r', t', hbo, hbl', hx', _, k1⟩ := H3.out j hjn
            simp only [Option.some.injEq, Addr.mk.injEq, and_true] at hbo
            obtain ⟨rfl, rfl⟩ := hbo
            have HT := hid (HX.out _ (List.mem_of_getElem? hx'.out))
            have HA := hid (named_succ hx'.out)
            obtain ⟨es, hes⟩ : ∃ es, entsOf (bs t') = es := ⟨_, rfl⟩
            have HES := hid hes
            have hm3 := entsOf_len (bs t')
            rw [hes] at hm3
            obtain ⟨m, hm⟩ : ∃ m, es.length = m := ⟨_, rfl⟩
            have HM := hid hm
            have hm4 : m ≤ 3 := by omega
            have j1 := (hB2.cell (p := ⟨b, o + j * 2 + 1, none⟩) hbl').trans k1
            clear k1 hes hm3
            go_wp2_with fail
            refine (spec_ReadFolder_c t' _ HT.out).mono ?_
            rw [HES.out]
            rintro e w4 ⟨lv, rfl, o4, b4⟩
            have hb4 := hb2.trans (b4.mono hb2.size)
            have hB4 := bl_then hB2 b4
            obtain ⟨la, lc, rfl, _, _, H4⟩ := (Rd.of_own o4).ents hm
            clear b4 hm j1 hb2 hB2
            go_wp2
            go_loopw [5, 9] (fun mv i wr3 => ∃ (l y : Nat), l ≤ m ∧ i = .int .i64 l ∧ mv = .int .i64 y ∧ Hid (y = z + ((es.map (·.print)).take l).count r) ∧ y ≤ 3 * j + l ∧ Below w4.heap.size w4 wr3) (fun _ i _ => m - (intOf i).toNat)
            case atStart => exact ⟨0, z, Nat.zero_le _, rfl, rfl, by simp [Hid], by omega, Below.refl _ _⟩
            case round =>
              obtain ⟨l, y, hl, rfl, rfl, hy, hy9, hb5⟩ := hrel
              clear o4
              by_cases hlm : l < m
              · obtain ⟨eb, eo, nm, pr, rfl, hebl, hex, c0, c1⟩ := H4 l hlm
                have HA2 := hid (show (es.map (·.print)).take (l + 1) = (es.map (·.print)).take l ++ [pr] from take_snoc' (x := pr) (by rw [List.getElem?_map, hex.out]; rfl))
                have HF := hid (show ((es.map (·.print)).take (l + 1)).count r = _ by rw [HA2.out, cnt_snoc])
                have d1 := (hb5.cell (p := ⟨eb, eo + l * 2 + 1, none⟩) hebl).trans c1
                have d0 : wr.cell? ⟨b, o + k * 2, none⟩ = some (.int .i64 r) := ((bl_then hB4 hb5).cell (p := ⟨b, o + k * 2, none⟩) hbl).trans HK0.out
                clear H4 c0 c1
                by_cases hpr : pr = r
                · have HF2 := HF.out
                  rw [if_pos hpr] at HF2
                  have HF3 := hid HF2
                  have hd1 : (pr == r) = true := by simp [hpr]
                  have hd2 : decide (pr = r) = true := by simp [hpr]
                  clear hpr HF2
                  go_wp2
                  go_quiet (fail)
                  go_wp2
                  go_roundw
                  case rel => exact ⟨l + 1, y + 1, by omega, by go_num, by go_num, by unfold Hid; rw [HF3.out, hy.out]; omega, by omega, bl_drewN hb5 _⟩
                  case measure => simp [intOf]; omega
                · have HF2 := HF.out
                  rw [if_neg hpr] at HF2
                  have HF3 := hid HF2
                  have hd1 : (pr == r) = false := by simp [hpr]
                  have hd2 : decide (pr = r) = false := by simp [hpr]
                  clear hpr HF2
                  go_wp2
                  go_quiet (fail)
                  go_wp2
                  go_roundw
                  case rel => exact ⟨l + 1, y, by omega, by go_num, rfl, by unfold Hid; rw [HF3.out, hy.out]; omega, by omega, bl_drewN hb5 _⟩
                  case measure => simp [intOf]; omega
              · have HF := hid (show y = (named (xs.take (j + 1))).count r by
                  have e9 : (es.map (·.print)).take l = es.map (·.print) := List.take_of_length_le (by rw [List.length_map, HM.out]; omega)
                  rw [hy.out, e9, hz.out, HA.out, List.count_append]; unfold prs; rw [HES.out])
                go_wp2
                go_roundw
                case rel => exact ⟨j + 1, y, by omega, by go_num, rfl, HF, by omega, hb4.trans (hb5.mono hb4.size)⟩
                case measure => simp [intOf]; omega
          · have HF := hid (show z = (named xs).count r by rw [hz.out, take_all HN.out (show n ≤ j by omega)])
            have hown2 := hown1.on hb2
            have hs2 := hB2.size
            go_wp2_with (at_builtin; refine push_int (w0 := w) rfl _ _ rfl w.heap.size w.heap.size _ acc z hown2 hB2 hs2 (Nat.le_refl _) rfl rfl (by omega) ?_; intro v' w' hown' hb' hB' hg')
            go_roundw
            case rel => exact ⟨k + 1, _, by omega, by go_num, hown', by unfold Hid; rw [HCK.out, hacc.out, HF.out], by simp; omega, hb'⟩
            case measure => simp [intOf]; omega
      · have HA := hid (show acc = countsOf xs by rw [hacc.out, take_all (by rw [HO.out, cnt_len]; exact HN.out) (show n ≤ k by omega)])
        go_wp2
        go_ret
        exact ⟨_, rfl, by rw [← HA.out]; exact hown, hb⟩

end Go.Proofs.YtkfkcbceoekgjaaDoor
