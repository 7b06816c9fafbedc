/- Walks and plain facts, joined: Miss, LwP, DrawSt, InvE, DrawSu, DrawHo, DrawPr. -/
import Derived.Test.YtfdhaigmekmboaaDoorMg1
import Derived.Test.YtfdhaigmekmboaaDoorMg4
import Derived.Test.YtfdhaigmekmboaaDoorMg6
set_option linter.unusedVariables false

/- Walks: the prints that are missing. -/
namespace Go.Proofs.YtfdhaigmekmboaaDoor
open Go.RowKit

theorem wantFrom_snoc (l : List Pc) (ns : List Int) (n : Int) : wantFrom l (ns ++ [n]) = wantStep l (wantFrom l ns) n := by
  unfold wantFrom; rw [List.foldl_append]; rfl
theorem missingOf_off {l : List Pc} (h : storeOk l = false) : missingOf l = [] := by unfold missingOf wantedOf; rw [h]; rfl
theorem missingOf_on {l : List Pc} (h : storeOk l = true) : missingOf l = wantFrom l (named l) := by unfold missingOf wantedOf; rw [h]; rfl
theorem missingOf_len {l : List Pc} : (missingOf l).length ≤ 120 := by
  cases h : storeOk l
  · rw [missingOf_off h]; simp
  · rw [missingOf_on h]
    have h1 := wantFrom_len l (named l) []
    have h2 := named_len l
    have h3 := (st_in h).1
    unfold wantFrom
    simp only [List.length_nil] at h1
    omega

set_option maxHeartbeats 2000000 in
set_option maxRecDepth 100000 in
theorem impl_MissingPrints_c (v : Value) (xs : List Pc) (w : World) (h : Pcs w w.heap.size v xs) (hx0 : ∀ x ∈ xs, x.text.size ≤ 1048576) (hl0 : xs.length ≤ 1048576) (hg : Glob w) :
    Calls Tryd.prog 13 #[v] w fun e w' => ∃ v', e = .returned v' ∧ OwnI w' w.heap.size v' (missingOf xs) ∧ Below w.heap.size w w' := by
  obtain ⟨n, hn⟩ : ∃ n, xs.length = n := ⟨_, rfl⟩
  obtain ⟨a, c, rfl, _, _, _⟩ := h.pcs hn
  have HP : Hid (∀ wx, Below w.heap.size w wx → Pcs wx wx.heap.size (.slice a n c) xs) := fun wx hx' => h.on hx'
  have HL := hid hl0
  have HG := hid hg
  clear hn hx0 hg
  cases hok : storeOk xs
  · have HO := hid (missingOf_off hok)
    go_enter Tryd.func13, Tryd.ntmps13
    go_wp2_with fail
    refine (impl_StoreValid_c _ xs _ h).mono ?_
    rw [hok]
    rintro e w1 ⟨rfl, b1⟩
    go_wp2
    go_ret
    exact ⟨_, rfl, by rw [HO.out]; exact Own.nil_, b1⟩
  · have HO := hid (missingOf_on hok)
    have HK := hid hok
    have HX := hid (fun (x : Pc) (hx : x ∈ xs) => show x.text.size ≤ 1000000 by have := textOk_size (pcOk_iff.1 (st_all hok hx)).1; omega)
    obtain ⟨ns, hns⟩ : ∃ ns, named xs = ns := ⟨_, rfl⟩
    have HNS := hid hns
    obtain ⟨m, hm⟩ : ∃ m, ns.length = m := ⟨_, rfl⟩
    have HM := hid hm
    have hl : m ≤ 3145728 := by have := named_len xs; rw [hns, hm] at this; omega
    clear hns
    go_enter Tryd.func13, Tryd.ntmps13
    go_wp2_with fail
    refine (impl_StoreValid_c _ xs _ h).mono ?_
    rw [hok]
    rintro e w0 ⟨rfl, b0⟩
    clear hok h
    go_wp2_with fail
    refine (impl_namedPrints_c _ xs _ (HP.out _ b0) HX.out HL.out (HG.out.on b0)).mono ?_
    rw [HNS.out]
    rintro e w1 ⟨nv, rfl, o1, b1'⟩
    have b1 := bl_then b0 b1'
    have hs1 := b1.size
    have hrd := Rd.of_own o1
    obtain ⟨a', c', rfl, _, _, h3⟩ := hrd.ints hm
    clear b1' o1 hrd hm
    go_wp2
    go_loopw [3, 14] (fun out i wr => ∃ (k : Nat) (acc : List Int), k ≤ m ∧ i = .int .i64 k ∧ OwnI wr w1.heap.size out acc ∧ Hid (acc = wantFrom xs (ns.take k)) ∧ acc.length ≤ k ∧ Below w1.heap.size w1 wr) (fun _ i _ => m - (intOf i).toNat)
    case atStart => exact ⟨0, [], Nat.zero_le _, rfl, Own.nil_, rfl, Nat.zero_le _, Below.refl _ _⟩
    case round =>
      obtain ⟨k, acc, hk, rfl, hown, hacc, hlen, hb⟩ := hrel
      have c1 := bl_then b1 hb
      by_cases hlt : k < m
      · obtain ⟨b, o, x, rfl, hbl, hx, k0⟩ := h3 k hlt
        have j0 := (hb.cell (p := ⟨b, o + k, none⟩) hbl).trans k0
        have HF := hid ((wantFrom_succ (l := xs) hx.out).trans (by rw [← hacc.out]))
        clear k0 h3
        obtain ⟨y, hy⟩ : ∃ y, hasP xs x = y := ⟨_, rfl⟩
        have HY := hid hy
        clear hy
        go_wp2_with fail
        refine (impl_findPiece_c _ xs x _ (HP.out _ c1) HK.out).mono ?_
        rw [HY.out]
        rintro e w4 ⟨rfl, b4⟩
        have hown4 := hown.on b4
        have hb4 := hb.trans (b4.mono hb.size)
        have hB4 := hb4.size
        clear b4 hown hb
        cases y
        · obtain ⟨z, hz⟩ : ∃ z, hasI acc x = z := ⟨_, rfl⟩
          have HZ := hid hz
          clear hz
          go_wp2_with fail
          refine (slices_Contains_c _ acc x _ _ (Rd.of_own hown4)).mono ?_
          rw [HZ.out]
          rintro e w5 ⟨rfl, rfl⟩
          cases z
          · have HS := hid (show wantStep xs acc x = acc ++ [x] by unfold wantStep; rw [HY.out, HZ.out]; rfl)
            go_wp2_with (at_builtin; refine push_int (w0 := w1) rfl _ _ rfl _ _ _ _ _ hown4 hb4 hB4 (Nat.le_refl _) rfl rfl (by omega) ?_; intro v' w' hown' hb' hB' _)
            go_roundw
            case rel => exact ⟨k + 1, _, by omega, by go_num, hown', hid (HF.out.trans HS.out).symm, by simp; omega, hb'⟩
            case measure => simp [intOf]; omega
          · have HS := hid (show wantStep xs acc x = acc by unfold wantStep; rw [HY.out, HZ.out]; rfl)
            go_wp2
            go_roundw
            case rel => exact ⟨k + 1, _, by omega, by go_num, hown4, hid (HF.out.trans HS.out).symm, by omega, hb4⟩
            case measure => simp [intOf]; omega
        · have HS := hid (show wantStep xs acc x = acc by unfold wantStep; rw [HY.out]; rfl)
          go_wp2
          go_roundw
          case rel => exact ⟨k + 1, _, by omega, by go_num, hown4, hid (HF.out.trans HS.out).symm, by omega, hb4⟩
          case measure => simp [intOf]; omega
      · have HA := hid (show acc = missingOf xs by rw [HO.out, HNS.out, hacc.out, take_all HM.out (show m ≤ k by omega)])
        go_wp2
        go_ret
        exact ⟨_, rfl, by rw [← HA.out]; exact hown.less hs1, c1⟩

set_option maxHeartbeats 2000000 in
set_option maxRecDepth 100000 in
theorem spec_MissingPrints_c (v : Value) (xs : List Pc) (w : World) (h : Pcs w w.heap.size v xs) (hx0 : ∀ x ∈ xs, x.text.size ≤ 1048576) (hl0 : xs.length ≤ 1048576) :
    Calls Tryd.prog 17 #[v] w fun e w' => ∃ v', e = .returned v' ∧ OwnI w' w.heap.size v' (missingOf xs) ∧ Below w.heap.size w w' := by
  obtain ⟨n, hn⟩ : ∃ n, xs.length = n := ⟨_, rfl⟩
  obtain ⟨a, c, rfl, _, _, h3⟩ := h.pcs hn
  have HN := hid hn
  have HX1 := hid hx0
  have HL := hid hl0
  have HP : Hid (∀ wx, Below w.heap.size w wx → Pcs wx wx.heap.size (.slice a n c) xs) := fun wx hx' => h.on hx'
  rw [hn] at hl0
  clear hn h hx0
  have hal : Below w.heap.size w (w.alloc (.cells #[] 3)) := (Below.refl _ _).alloc (Nat.le_refl _) _
  have hown0 : OwnI (w.alloc (.cells #[] 3)) w.heap.size (.slice (some ⟨w.heap.size, 0, none⟩) 0 0) [] := Own.made _ (Nat.le_refl _)
  cases hok : storeOk xs
  · have HO := hid (missingOf_off hok)
    have HK := hid hok
    clear hok h3
    by_cases h0 : 0 < n
    · go_enter Tryd.func17, Tryd.ntmps17
      go_wp2
      refine wp_loop_rounds 1 ?_
      rw [rounds_succ]
      go_wp2_with (go_at_call 30; refine (spec_StoreValid_c _ xs _ _ (HP.out _ hal) HX1.out HL.out).mono ?_; rw [HK.out]; rintro e w' ⟨rfl, q, rfl⟩)
      go_ret
      exact ⟨_, rfl, by rw [HO.out]; exact hown0.drewN q, bl_drewN hal q⟩
    · go_enter Tryd.func17, Tryd.ntmps17
      go_wp2
      refine wp_loop_rounds 1 ?_
      rw [rounds_succ]
      go_wp2
      go_ret
      exact ⟨_, rfl, by rw [HO.out]; exact hown0, hal⟩
  · have HO := hid (missingOf_on hok)
    have HK := hid hok
    have HX := hid (fun (x : Pc) (hx : x ∈ xs) => show x.text.size ≤ 1000000 by have := textOk_size (pcOk_iff.1 (st_all hok hx)).1; omega)
    clear hok
    go_enter Tryd.func17, Tryd.ntmps17
    go_wp2
    go_loopw [3, 4] (fun out i wr => ∃ (k : Nat) (acc : List Int), k ≤ n ∧ i = .int .i64 k ∧ OwnI wr w.heap.size out acc ∧ Hid (acc = wantFrom xs (named (xs.take k))) ∧ acc.length ≤ 3 * k ∧ Below w.heap.size w wr) (fun _ i _ => n - (intOf i).toNat)
    case atStart => exact ⟨0, [], Nat.zero_le _, rfl, hown0, rfl, Nat.zero_le _, hal⟩
    case round =>
      obtain ⟨k, acc, hk, rfl, hown, hacc, hlen, hb⟩ := hrel
      clear hown0 hal
      by_cases hlt : k < n
      · obtain ⟨b, o, r, t, rfl, hbl, hx, k0, k1⟩ := h3 k hlt
        have HT := hid (HX.out _ (List.mem_of_getElem? hx.out))
        have HA := hid (named_succ hx.out)
        obtain ⟨es, hes⟩ : ∃ es, entsOf (bs t) = es := ⟨_, rfl⟩
        have HES := hid hes
        have hm3 := entsOf_len (bs t)
        rw [hes] at hm3
        obtain ⟨m, hm⟩ : ∃ m, es.length = m := ⟨_, rfl⟩
        have HM := hid hm
        have hm4 : m ≤ 3 := by omega
        have HK1 := hid k1
        clear k0 k1 h3 hes hm3
        go_wp2_with fail
        refine (spec_StoreValid_c _ xs _ _ (HP.out _ hb) HX1.out HL.out).mono ?_
        rw [HK.out]
        rintro e w3 ⟨rfl, q, rfl⟩
        obtain ⟨W1, hW1⟩ : ∃ W1, W1 = wr.drewN q := ⟨_, rfl⟩
        have hb1 : Below w.heap.size w W1 := by rw [hW1]; exact bl_drewN hb q
        have hown1 := hown.drewN q
        rw [← hW1] at hown1
        rw [← hW1]
        have j1 := (hb1.cell (p := ⟨b, o + k * 2 + 1, none⟩) hbl).trans HK1.out
        clear hW1 hown hb
        go_wp2_with fail
        refine (spec_ReadFolder_c t _ HT.out).mono ?_
        rw [HES.out]
        rintro e w4 ⟨lv, rfl, o4, b4⟩
        have hown4 := hown1.on b4
        have hb4 := bl_then hb1 b4
        have hlt4 := hid o4.lt
        have hpb := hid fun g hg => (hown1.lt g hg).2
        have hsz4 := b4.size
        obtain ⟨la, lc, rfl, _, _, _⟩ := (Rd.of_own o4).ents hm
        clear b4 hm hown1 j1
        go_wp2
        go_loopw [3, 7] (fun pv i wr2 => ∃ (j : Nat) (acc2 : List Int), j ≤ m ∧ i = .int .i64 j ∧ OwnI wr2 w.heap.size pv acc2 ∧ Hid (acc2 = wantFrom xs (named (xs.take k) ++ (es.map (·.print)).take j)) ∧ acc2.length ≤ 3 * k + j ∧ OwnE wr2 W1.heap.size (.slice la m lc) es ∧ Hid (∀ g, pv.ownBlock = some g → g < W1.heap.size ∨ w4.heap.size ≤ g) ∧ Below w.heap.size w wr2 ∧ w4.heap.size ≤ wr2.heap.size) (fun _ i _ => m - (intOf i).toNat)
        case atStart => exact ⟨0, acc, Nat.zero_le _, rfl, hown4, by unfold Hid; rw [hacc.out, List.take_zero, List.append_nil], by omega, o4, hid fun g hg => .inl (hpb.out g hg), hb4, Nat.le_refl _⟩
        case round =>
          obtain ⟨j, acc2, hj, rfl, hown2, hacc2, hlen2, hol, hpb2, hb2, hsz2⟩ := hrel
          clear o4 hown4 hb4
          by_cases hjm : j < m
          · obtain ⟨_, _, hv, _, _, hcs⟩ := (Rd.of_own hol).ents HM.out
            simp only [Value.slice.injEq] at hv
            obtain ⟨e1, _, e2⟩ := hv
            subst e1
            subst e2
            obtain ⟨eb, eo, nm, pr, rfl, hebl, hex, c0, c1⟩ := hcs j hjm
            have HA2 := hid (show named (xs.take k) ++ (es.map (·.print)).take (j + 1) = (named (xs.take k) ++ (es.map (·.print)).take j) ++ [pr] by rw [take_snoc' (x := pr) (by rw [List.getElem?_map, hex.out]; rfl), List.append_assoc])
            have HF2 := hid ((congrArg (wantFrom xs) HA2.out).trans ((wantFrom_snoc _ _ _).trans (by rw [← hacc2.out])))
            have hB3 := hb2.size
            obtain ⟨y, hy⟩ : ∃ y, hasP xs pr = y := ⟨_, rfl⟩
            have HY := hid hy
            clear hcs hy
            go_wp2_with fail
            refine (spec_l4Get_c _ xs pr _ _ (HP.out _ hb2)).mono ?_
            rw [HY.out]
            rintro e w5 ⟨rfl, rfl⟩
            cases y
            · obtain ⟨z, hz⟩ : ∃ z, hasI acc2 pr = z := ⟨_, rfl⟩
              have HZ := hid hz
              clear hz
              go_wp2_with fail
              refine (spec_l19Has_c _ acc2 pr _ _ (Rd.of_own hown2)).mono ?_
              rw [HZ.out]
              rintro e w5 ⟨rfl, rfl⟩
              cases z
              · have HS := hid (show wantStep xs acc2 pr = acc2 ++ [pr] by unfold wantStep; rw [HY.out, HZ.out]; rfl)
                go_wp2_with (at_builtin; refine push_int (w0 := w) rfl _ _ rfl w.heap.size w.heap.size _ acc2 pr hown2 hb2 hB3 (Nat.le_refl _) rfl rfl (by omega) ?_; intro v' w' hown' hb' hB' hg')
                go_roundw
                case rel =>
                  have hne : (Value.slice (some ⟨eb, eo, none⟩) m lc).ownBlock = none ∨ (Value.slice (some ⟨eb, eo, none⟩) m lc).ownBlock ≠ Value.ownBlock _ := .inr (fun e => by
                    have h5 := hlt4.out eb rfl
                    rcases hpb2.out eb e.symm with h6 | h6
                    · omega
                    · omega)
                  have hsz3 : w4.heap.size ≤ w'.heap.size := by have := hg'.1.size; omega
                  refine ⟨j + 1, _, by omega, by go_num, hown', hid (HF2.out.trans HS.out).symm, by simp; omega, Own.kept hol hg'.1 hne, hid fun g hg => ?_, hb', hsz3⟩
                  rcases hg'.2 g hg with h6 | h6
                  · exact hpb2.out g h6
                  · exact .inr (by omega)
                case measure => simp [intOf]; omega
              · have HS := hid (show wantStep xs acc2 pr = acc2 by unfold wantStep; rw [HY.out, HZ.out]; rfl)
                go_wp2
                go_roundw
                case rel => exact ⟨j + 1, _, by omega, by go_num, hown2, hid (HF2.out.trans HS.out).symm, by omega, hol, hpb2, hb2, hsz2⟩
                case measure => simp [intOf]; omega
            · have HS := hid (show wantStep xs acc2 pr = acc2 by unfold wantStep; rw [HY.out]; rfl)
              go_wp2
              go_roundw
              case rel => exact ⟨j + 1, _, by omega, by go_num, hown2, hid (HF2.out.trans HS.out).symm, by omega, hol, hpb2, hb2, hsz2⟩
              case measure => simp [intOf]; omega
          · have HF := hid (show acc2 = wantFrom xs (named (xs.take (k + 1))) by
              have e9 : (es.map (·.print)).take j = es.map (·.print) := List.take_of_length_le (by rw [List.length_map, HM.out]; omega)
              rw [hacc2.out, HA.out, e9]; unfold prs; rw [HES.out])
            go_wp2
            go_roundw
            case rel => exact ⟨k + 1, acc2, by omega, by go_num, hown2, HF, by omega, hb2⟩
            case measure => simp [intOf]; omega
      · have HA := hid (show acc = missingOf xs by rw [HO.out, hacc.out, take_all HN.out (show n ≤ k by omega)])
        go_wp2
        go_ret
        exact ⟨_, rfl, by rw [← HA.out]; exact hown, hb⟩

end Go.Proofs.YtfdhaigmekmboaaDoor

/- What the laws on wanted, sent and taken texts, on named and missing prints and on what is reached say, in plain Lean. No program in sight. -/
namespace Go.Proofs.YtfdhaigmekmboaaDoor
open Go.RowKit

theorem hasI_wantStep {l : List Pc} {out : List Int} {n y : Int} : y ∈ wantStep l out n ↔ (y ∈ out ∨ (y = n ∧ hasP l n = false)) := by
  unfold wantStep
  cases hp : hasP l n
  · cases hi : hasI out n
    · simp
    · simp only [Bool.false_or, if_true]
      constructor
      · exact .inl
      · rintro (h | ⟨rfl, _⟩)
        · exact h
        · exact hasI_iff.1 hi
  · simp
theorem want_mem {l : List Pc} {y : Int} : ∀ (ns out : List Int), y ∈ ns.foldl (wantStep l) out ↔ (y ∈ out ∨ (y ∈ ns ∧ hasP l y = false))
  | [], out => by simp
  | n :: r, out => by
    rw [List.foldl_cons, want_mem r, hasI_wantStep]
    constructor
    · rintro ((h | ⟨rfl, h⟩) | h)
      · exact .inl h
      · exact .inr ⟨by simp, h⟩
      · exact .inr ⟨by simp [h.1], h.2⟩
    · rintro (h | ⟨h, h2⟩)
      · exact .inl (.inl h)
      · rcases List.mem_cons.1 h with rfl | h
        · exact .inl (.inr ⟨rfl, h2⟩)
        · exact .inr ⟨h, h2⟩
theorem wantedOf_mem {l : List Pc} (h : storeOk l = true) {ns : List Int} {y : Int} : y ∈ wantedOf l ns ↔ (y ∈ ns ∧ hasP l y = false) := by
  unfold wantedOf wantFrom; rw [h]; simp [want_mem]
theorem wanted_has {l : List Pc} (h : storeOk l = true) {ns : List Int} {y : Int} (hy : y ∈ ns) : hasI (wantedOf l ns) y = !hasP l y := by
  rw [Bool.eq_iff_iff, hasI_iff, wantedOf_mem h]
  simp [hy]
theorem want_nodup {l : List Pc} : ∀ (ns out : List Int), out.Nodup → (ns.foldl (wantStep l) out).Nodup
  | [], out, h => h
  | n :: r, out, h => by
    rw [List.foldl_cons]
    refine want_nodup r _ ?_
    unfold wantStep
    split
    · exact h
    · rename_i hc
      rw [List.nodup_append]
      refine ⟨h, by simp, ?_⟩
      intro a ha b hb
      simp at hb; subst hb
      rintro rfl
      exact hc (by rw [hasI_iff.2 ha]; simp)
theorem want_same {l : List Pc} : ∀ (ns out : List Int), (out ++ ns).Nodup → (∀ y ∈ ns, hasP l y = false) → ns.foldl (wantStep l) out = out ++ ns
  | [], out, _, _ => by simp
  | n :: r, out, h, h2 => by
    rw [List.foldl_cons]
    have hs : wantStep l out n = out ++ [n] := by
      unfold wantStep
      rw [h2 n (by simp)]
      have : hasI out n = false := by
        cases hi : hasI out n
        · rfl
        · exfalso
          have := hasI_iff.1 hi
          rw [List.nodup_append] at h
          exact h.2.2 n this n (by simp) rfl
      rw [this]; rfl
    rw [hs, want_same r _ (by simpa using h) (fun y hy => h2 y (by simp [hy]))]
    simp
theorem send_map {l : List Pc} : ∀ (ns : List Int) (out : List ByteArray), ns.foldl (sendStep l) out = out ++ ns.filterMap (getP l)
  | [], out => by simp
  | n :: r, out => by
    rw [List.foldl_cons, send_map r]
    unfold sendStep
    rw [List.filterMap_cons]
    cases getP l n <;> simp
theorem sendTexts_on {l : List Pc} (h : storeOk l = true) (ns : List Int) : sendTexts l ns = ns.filterMap (getP l) := by
  unfold sendTexts sendFrom; rw [h, if_pos rfl, send_map]; rfl
theorem filterMap_len {α β : Type} (f : α → Option β) (p : α → Bool) : ∀ (l : List α), (∀ x ∈ l, p x = (f x).isSome) → (l.filterMap f).length = (l.filter p).length
  | [], _ => rfl
  | x :: r, h => by
    have h1 := h x (by simp)
    have ih := filterMap_len f p r (fun y hy => h y (by simp [hy]))
    rw [List.filterMap_cons, List.filter_cons, h1]
    cases f x with
    | none => simpa using ih
    | some y => simpa using ih
/-- FnSendTexts. -/
theorem lw_send {l : List Pc} (h : storeOk l = true) (ns : List Int) : (sendTexts l ns).length = (ns.filter fun n => !hasI (wantedOf l ns) n).length := by
  rw [sendTexts_on h]
  exact filterMap_len _ _ ns (fun n hn => by rw [wanted_has h hn]; simp [hasP])
theorem lw_send2 {l : List Pc} {ns : List Int} {t : ByteArray} (ht : t ∈ sendTexts l ns) : hasI ns (printOf (bs t)) = true := by
  cases h : storeOk l
  · unfold sendTexts at ht; rw [h] at ht; simp at ht
  · rw [sendTexts_on h] at ht
    obtain ⟨n, hn, hg⟩ := List.mem_filterMap.1 ht
    have hm := st_all h ((getP_iff h).1 hg)
    rw [hasI_iff, ← (pcOk_iff.1 hm).2]
    exact hn
/-- FnWantedOf. -/
theorem wantedOf_le {l : List Pc} {ns : List Int} : (wantedOf l ns).length ≤ ns.length := by
  unfold wantedOf
  split
  · have := wantFrom_len l ns []; unfold wantFrom; simpa using this
  · simp

/-! ### FnTakeTexts -/
theorem take_get {ps : List Int} : ∀ (ts : List ByteArray) (s : List Pc × Nat), storeOk s.1 = true →
    storeOk (ts.foldl (takeStep ps) s).1 = true ∧ (∀ n u, getP s.1 n = some u → getP (ts.foldl (takeStep ps) s).1 n = some u) ∧
    (∀ n, hasP (ts.foldl (takeStep ps) s).1 n = true → hasP s.1 n = true ∨ n ∈ ps) ∧
    s.2 ≤ (ts.foldl (takeStep ps) s).2 ∧ (ts.foldl (takeStep ps) s).2 ≤ s.2 + ts.length ∧ (ts.foldl (takeStep ps) s).1.length + (ts.foldl (takeStep ps) s).2 ≤ s.1.length + s.2 + ts.length
  | [], s, h => ⟨h, fun _ _ h => h, fun _ h => .inl h, Nat.le_refl _, by simp, by simp⟩
  | t :: r, s, h => by
    rw [List.foldl_cons]
    obtain ⟨i1, i2, i3, i4, i5, i6⟩ := take_get r (takeStep ps s t) (takeStep_ok h)
    by_cases hc : ((putS s.1 t).2.2 && hasI ps (putS s.1 t).2.1) = true
    · have e : takeStep ps s t = ((putS s.1 t).1, s.2) := by unfold takeStep; rw [if_pos hc]
      rw [e] at i1 i2 i3 i4 i5 i6 ⊢
      obtain ⟨hp, hi⟩ := Bool.and_eq_true_iff.1 hc
      obtain ⟨p1, p2, p3, p4⟩ := put_get h hp
      have hl : (putS s.1 t).1.length ≤ s.1.length + 1 := by
        rcases put_cases (t := t) h with e | ⟨_, _, e⟩ | ⟨_, _, _, e⟩
        · rw [e]; simp
        · rw [e]; simp
        · rw [e]; simp [insP_len]
      refine ⟨i1, fun n u hn => i2 n u ((p4 n u).2 (.inl hn)), fun n hn => ?_, i4, ?_, ?_⟩
      · rcases i3 n hn with h1 | h1
        · obtain ⟨u, hu⟩ := has_get h1
          rcases (p4 n u).1 hu with h2 | ⟨rfl, _⟩
          · exact .inl (get_has h2)
          · right
            rw [p3] at hi
            exact hasI_iff.1 hi
        · exact .inr h1
      · simp only [List.length_cons] at i5 ⊢; omega
      · simp only [List.length_cons] at i6 ⊢; omega
    · have e : takeStep ps s t = (s.1, s.2 + 1) := by unfold takeStep; rw [if_neg hc]
      rw [e] at i1 i2 i3 i4 i5 i6 ⊢
      refine ⟨i1, i2, i3, ?_, ?_, ?_⟩
      · simp only at i4; omega
      · simp only [List.length_cons] at i5 ⊢; omega
      · simp only [List.length_cons] at i6 ⊢; omega
theorem lw_take {l : List Pc} (h : storeOk l = true) (ps : List Int) (ts : List ByteArray) : ∃ (x : List Pc) (b : Nat), takeTexts l ps ts = (x, (b : Int)) ∧ storeOk x = true ∧ Le l x ∧ (∀ p ∈ x, hasP l p.print = true ∨ hasI ps p.print = true) ∧ b ≤ ts.length ∧ x.length + b ≤ l.length + ts.length := by
  obtain ⟨i1, i2, i3, i4, i5, i6⟩ := take_get (ps := ps) ts (l, 0) h
  refine ⟨(takeFrom l ps ts).1, (takeFrom l ps ts).2, by unfold takeTexts; rw [h]; rfl, i1, i2, fun p hp => ?_, ?_, ?_⟩
  · exact (i3 p.print (hasP_iff.2 ⟨p, hp, rfl⟩)).imp id hasI_iff.2
  · simpa [takeFrom] using i5
  · simpa [takeFrom] using i6

/-! ### FnMissingPrints -/
theorem missing_mem {l : List Pc} (h : storeOk l = true) {y : Int} : y ∈ missingOf l ↔ (y ∈ named l ∧ hasP l y = false) := by unfold missingOf; exact wantedOf_mem h
theorem missing_nodup (l : List Pc) : (missingOf l).Nodup := by
  unfold missingOf wantedOf
  split
  · exact want_nodup _ _ (by simp)
  · simp
theorem missing_hasP {l : List Pc} {y : Int} (hy : y ∈ missingOf l) : hasP l y = false := by
  cases h : storeOk l
  · rw [missingOf_off h] at hy; simp at hy
  · exact ((missing_mem h).1 hy).2
theorem missing_want (l : List Pc) : wantedOf l (missingOf l) = missingOf l := by
  cases h : storeOk l
  · rw [missingOf_off h]; unfold wantedOf; rw [h]; rfl
  · conv => lhs; unfold wantedOf
    rw [if_pos h]
    have := want_same (l := l) (missingOf l) [] (by simpa using missing_nodup l) (fun y hy => missing_hasP hy)
    simpa [wantFrom] using this
theorem missing_once {l : List Pc} {k : Nat} {y : Int} (h : (missingOf l)[k]? = some y) : hasI ((missingOf l).take k) y = false := by
  cases hh : hasI ((missingOf l).take k) y
  · rfl
  · exfalso
    have hm := hasI_iff.1 hh
    obtain ⟨j, hj, e⟩ := List.getElem_of_mem hm
    have hn := missing_nodup l
    obtain ⟨hk, ek⟩ := List.getElem?_eq_some_iff.1 h
    simp only [List.length_take] at hj
    rw [List.getElem_take] at e
    exact List.pairwise_iff_getElem.1 hn j k (by omega) hk (by omega) (by rw [e, ek])

/-! ### FnNameCounts -/
def cntHas (l : List Pc) (ns : List Int) : Nat := (ns.filter fun n => hasP l n).length
theorem sum_set : ∀ (L : List Int) (i : Nat) (x z : Int), L[i]? = some x → (L.set i z).sum = L.sum - x + z
  | [], i, x, z, h => by simp at h
  | a :: r, 0, x, z, h => by simp at h; subst h; simp; omega
  | a :: r, i + 1, x, z, h => by
    have := sum_set r i x z (by simpa using h)
    simp only [List.set_cons_succ, List.sum_cons, this]; omega
theorem cnt_sum {l : List Pc} (hs : storeOk l = true) (ns : List Int) : (cntIn l ns).sum = (cntHas l ns : Int) := by
  have key : ∀ n : Nat, ∀ ns : List Int, ns.length = n → (cntIn l ns).sum = (cntHas l ns : Int) := by
    intro n
    induction n with
    | zero =>
      intro ns hn
      obtain rfl := List.length_eq_zero_iff.1 hn
      rw [cnt_nil]
      simp [cntHas]
    | succ n ih =>
      intro ns hn
      rcases List.eq_nil_or_concat ns with rfl | ⟨t, y, rfl⟩
      · simp at hn
      · rw [List.concat_eq_append] at hn ⊢
        have iht := ih t (by simp at hn; omega)
        have hc : cntHas l (t ++ [y]) = cntHas l t + if hasP l y then 1 else 0 := by
          unfold cntHas
          rw [List.filter_append, List.length_append]
          cases hp : hasP l y <;> simp [hp]
        rw [hc]
        cases hp : hasP l y
        · rw [cnt_no t hp, iht]; simp
        · rw [cnt_yes t hs hp]
          obtain ⟨x, hx, hxy⟩ := has_at hs hp
          have hg := cnt_get t hx
          rw [hxy] at hg
          rw [sum_set _ _ _ _ hg, iht]
          simp; omega
  exact key ns.length ns rfl
theorem counts_sum {l : List Pc} (hs : storeOk l = true) : (countsOf l).sum = (cntHas l (named l) : Int) := by
  rw [countsOf_on hs]; exact cnt_sum hs _
/-- What the law's second loop takes away for one print. -/
noncomputable def missW (l : List Pc) (n : Int) : Int := if hasI (missingOf l) n then 0 else 1
theorem miss_named {l : List Pc} (hs : storeOk l = true) : ((named l).map (missW l)).sum = (cntHas l (named l) : Int) := by
  have key : ∀ ns : List Int, (∀ n ∈ ns, n ∈ named l) → (ns.map (missW l)).sum = (cntHas l ns : Int) := by
    intro ns
    induction ns with
    | nil => intro _; rfl
    | cons n r ih =>
      intro h
      rw [List.map_cons, List.sum_cons, ih (fun x hx => h x (by simp [hx]))]
      unfold missW cntHas
      rw [List.filter_cons]
      cases hp : hasP l n
      · rw [if_pos (hasI_iff.2 ((missing_mem hs).2 ⟨h n (by simp), hp⟩))]; simp
      · rw [if_neg (fun hc => by have := ((missing_mem hs).1 (hasI_iff.1 hc)).2; rw [hp] at this; cases this)]
        simp; omega
  exact key _ (fun _ h => h)
theorem lw_count {l : List Pc} (hs : storeOk l = true) : (countsOf l).sum - ((named l).map (missW l)).sum = 0 := by rw [counts_sum hs, miss_named hs]; omega
theorem counts_full {l : List Pc} (hs : storeOk l = true) : (countsOf l).length = l.length := by rw [countsOf_on hs, cnt_len]

/-! ### FnTopPrints, FnLostPrints -/
/-- No folder leads to itself. -/
def Acy (l : List Pc) : Prop := ∃ rank : Int → Nat, ∀ x ∈ l, ∀ y ∈ prs x, hasP l y = true → rank y < rank x.print
theorem Good.acy {l : List Pc} (h : Good l) : Acy l := by
  obtain ⟨hs, rank, hr⟩ := h
  exact ⟨rank, fun x hx y hy _ => (hr x.print x.text ((getP_iff hs).2 hx) y hy).2⟩
theorem top_mem {l : List Pc} (hs : storeOk l = true) {y : Int} : y ∈ topsOf l ↔ ∃ x ∈ l, x.print = y ∧ y ∉ named l := by
  unfold topsOf
  rw [List.mem_flatMap, countsOf_on hs]
  constructor
  · rintro ⟨⟨z, x⟩, hzx, hy⟩
    obtain ⟨i, hi, e⟩ := List.getElem_of_mem hzx
    have hi2 : i < l.length := by simp at hi; omega
    simp only [List.getElem_zip, Prod.mk.injEq] at e
    have hx : l[i]? = some x := by rw [List.getElem?_eq_getElem hi2, e.2]
    have hg := cnt_get (named l) hx
    have hz : (cntIn l (named l))[i]? = some z := by
      rw [List.getElem?_eq_getElem (by rw [cnt_len]; exact hi2)]
      rw [e.1]
    rw [hg] at hz
    have hz' := Option.some.inj hz
    unfold topF at hy
    simp only at hy
    split at hy
    · rename_i h0
      simp at hy; subst hy
      refine ⟨x, List.mem_of_getElem? hx, rfl, ?_⟩
      have : (named l).count x.print = 0 := by omega
      exact List.count_eq_zero.1 this
    · simp at hy
  · rintro ⟨x, hx, rfl, hn⟩
    obtain ⟨i, hi, e⟩ := List.getElem_of_mem hx
    have hx' : l[i]? = some x := by rw [List.getElem?_eq_getElem hi, e]
    have hg := cnt_get (named l) hx'
    rw [List.count_eq_zero.2 hn] at hg
    refine ⟨((0 : Nat), x), ?_, by simp [topF]⟩
    obtain ⟨h1, h2⟩ := List.getElem?_eq_some_iff.1 hg
    rw [List.mem_iff_getElem]
    refine ⟨i, by simp; omega, ?_⟩
    rw [List.getElem_zip, h2, e]
theorem named_mem {l : List Pc} {y : Int} : y ∈ named l ↔ ∃ x ∈ l, y ∈ prs x := by unfold named; exact List.mem_flatMap
theorem tops_reach {l : List Pc} (hs : storeOk l = true) (ha : Acy l) : ∀ x ∈ l, Rch l (topsOf l) x.print := by
  obtain ⟨rank, hr⟩ := ha
  obtain ⟨M, hM⟩ : ∃ M, ∀ x ∈ l, rank x.print ≤ M := ⟨(l.map fun x => rank x.print).sum, fun x hx => by
    have := sum_ge (f := rank) (l := l.map (·.print)) (List.mem_map.2 ⟨x, hx, rfl⟩)
    simpa [Function.comp_def] using this⟩
  have key : ∀ d : Nat, ∀ x ∈ l, M - rank x.print ≤ d → Rch l (topsOf l) x.print := by
    intro d
    induction d with
    | zero =>
      intro x hx hd
      have h1 := hM x hx
      refine rch_root ((top_mem hs).2 ⟨x, hx, rfl, fun hn => ?_⟩) (has_mem hx)
      obtain ⟨z, hz, hy⟩ := named_mem.1 hn
      have h2 := hr z hz _ hy (has_mem hx)
      have h3 := hM z hz
      omega
    | succ d ih =>
      intro x hx hd
      by_cases hn : x.print ∈ named l
      · obtain ⟨z, hz, hy⟩ := named_mem.1 hn
        have h2 := hr z hz _ hy (has_mem hx)
        have h3 := hM z hz
        exact rch_step hz (ih z hz (by omega)) hy (has_mem hx)
      · exact rch_root ((top_mem hs).2 ⟨x, hx, rfl, hn⟩) (has_mem hx)
  exact fun x hx => key _ x hx (Nat.le_refl _)
/-- The prints that are not reached. -/
noncomputable def lostOf (l : List Pc) (roots : List Int) : List Int := if storeOk l then (l.filter fun p => !inR l roots p.print).map (·.print) else []
theorem lostOf_off {l : List Pc} {roots : List Int} (h : storeOk l = false) : lostOf l roots = [] := by unfold lostOf; rw [h]; rfl
theorem lostOf_on {l : List Pc} {roots : List Int} (h : storeOk l = true) : lostOf l roots = (l.filter fun p => !inR l roots p.print).map (·.print) := by unfold lostOf; rw [h]; rfl
theorem lost_none {l : List Pc} {roots : List Int} (h : ∀ x ∈ l, Rch l roots x.print) : lostOf l roots = [] := by
  unfold lostOf
  split
  · rw [List.map_eq_nil_iff, List.filter_eq_nil_iff]
    intro x hx
    rw [inR_iff.2 (h x hx)]; simp
  · rfl
theorem filter_both {α : Type} (p : α → Bool) : ∀ l : List α, (l.filter fun x => !p x).length + (l.filter p).length = l.length
  | [] => rfl
  | x :: r => by
    have := filter_both p r
    rw [List.filter_cons, List.filter_cons]
    cases p x <;> simp <;> omega
theorem lost_all {l : List Pc} {roots : List Int} (h : storeOk l = true) : (lostOf l roots).length + (reachOf l roots).length = l.length := by
  rw [lostOf_on h, reachOf_on h, List.length_map, List.length_map]
  exact filter_both _ l
theorem rch_more {l : List Pc} {roots more : List Int} {y : Int} (h : Rch l roots y) (hm : ∀ z ∈ roots, z ∈ more) : Rch l more y := fun S hS => h S ⟨fun z hz hp => hS.1 z (hm z hz) hp, hS.2⟩
theorem lost_more {l : List Pc} {roots : List Int} (h : storeOk l = true) : lostOf l (roots ++ lostOf l roots) = [] := by
  refine lost_none (fun x hx => ?_)
  cases hr : inR l roots x.print
  · refine rch_root ?_ (has_mem hx)
    rw [List.mem_append, lostOf_on h]
    exact .inr (List.mem_map.2 ⟨x, List.mem_filter.2 ⟨hx, by simp [hr]⟩, rfl⟩)
  · exact rch_more (inR_iff.1 hr) (fun z hz => List.mem_append_left _ hz)
theorem lostOf_len {l : List Pc} {roots : List Int} : (lostOf l roots).length ≤ 40 := by
  cases h : storeOk l
  · rw [lostOf_off h]; simp
  · have := lost_all (roots := roots) h
    have := (st_in h).1
    omega
theorem topsOf_le {l : List Pc} : (topsOf l).length ≤ l.length := by
  unfold topsOf
  have h1 : ∀ z : List (Int × Pc), (z.flatMap topF).length ≤ z.length := by
    intro z
    induction z with
    | nil => simp
    | cons a r ih =>
      rw [List.flatMap_cons, List.length_append]
      have : (topF a).length ≤ 1 := by unfold topF; split <;> simp
      rw [List.length_cons]; omega
  refine Nat.le_trans (h1 _) ?_
  rw [List.length_zip]
  omega

/-! ### Drawn stores that are turned -/
theorem nmd_prs (x : Pc) : prs x = nmd x.text := rfl
def TURNED : ByteArray := ⟨#[116, 117, 114, 110, 101, 100]⟩
theorem nmd_turned : nmd TURNED = [] := by
  unfold nmd entsOf
  rw [readFolder_no (fun es h he => by rw [folder_on h] at he; have := congrArg List.head? he; simp [TURNED, bs] at this)]
  rfl
/-- A store that was drawn: not empty, small, and no valid part of it has a folder that leads to itself. -/
def DrawnH (l : List Pc) : Prop := l.length ≤ 41 ∧ (∀ x ∈ l, x.text.size ≤ 60) ∧ ∀ l' : List Pc, (∀ x ∈ l', x ∈ l) → storeOk l' = true → Acy l'
def Drawn (l : List Pc) : Prop := l ≠ [] ∧ DrawnH l
theorem acy_sub {l l' : List Pc} (h : Acy l) (hs : ∀ x ∈ l', x ∈ l) : Acy l' := by
  obtain ⟨rank, hr⟩ := h
  refine ⟨rank, fun x hx y hy hp => hr x (hs x hx) y hy ?_⟩
  obtain ⟨u, hu, rfl⟩ := hasP_iff.1 hp
  exact has_mem (hs u hu)
theorem DrawnH.acy {l : List Pc} (h : DrawnH l) (hs : storeOk l = true) : Acy l := h.2.2 l (fun _ hx => hx) hs
theorem Good.drawn {l : List Pc} (h : Good l) (h0 : l ≠ []) : Drawn l := ⟨h0, by have := (st_in h.1).1; omega, fun x hx => st_text h.1 hx, fun l' hl _ => acy_sub h.acy hl⟩
theorem drawn_print {l : List Pc} (h : Good l) (h0 : l ≠ []) {j : Nat} {x : Pc} (hx : l[j]? = some x) (r : Int) : Drawn (l.set j ⟨r, x.text⟩) := by
  have hm := List.mem_of_getElem? hx
  refine ⟨by simpa using h0, by have := (st_in h.1).1; simp; omega, fun y hy => ?_, fun l' hl hs => acy_sub h.acy (fun y hy => ?_)⟩
  · rcases List.mem_or_eq_of_mem_set hy with h1 | rfl
    · exact st_text h.1 h1
    · have := st_text h.1 hm; exact this
  · rcases List.mem_or_eq_of_mem_set (hl y hy) with h1 | rfl
    · exact h1
    · have h1 := (pcOk_iff.1 (st_all hs hy)).2
      have h2 := (pcOk_iff.1 (st_all h.1 hm)).2
      simp only at h1
      have e : (⟨r, x.text⟩ : Pc) = x := by
        obtain ⟨p, t⟩ := x
        simp only at h1 h2 ⊢
        rw [h1, h2]
      rw [e]; exact hm
theorem drawn_twice {l : List Pc} (h : Good l) {x : Pc} (hx : l[0]? = some x) : Drawn (l ++ [x]) := by
  have hm := List.mem_of_getElem? hx
  have hsub : ∀ y ∈ l ++ [x], y ∈ l := fun y hy => by
    rcases List.mem_append.1 hy with h1 | h1
    · exact h1
    · simp at h1; subst h1; exact hm
  exact ⟨by simp, by have := (st_in h.1).1; simp; omega, fun y hy => st_text h.1 (hsub y hy), fun l' hl _ => acy_sub h.acy (fun y hy => hsub y (hl y hy))⟩
theorem drawn_text {l : List Pc} (h : Good l) (h0 : l ≠ []) {j : Nat} {x : Pc} (hx : l[j]? = some x) : Drawn (l.set j ⟨x.print, TURNED⟩) := by
  have hm := List.mem_of_getElem? hx
  refine ⟨by simpa using h0, by have := (st_in h.1).1; simp; omega, fun y hy => ?_, fun l' hl hs => ?_⟩
  · rcases List.mem_or_eq_of_mem_set hy with h1 | rfl
    · exact st_text h.1 h1
    · simp [TURNED, ByteArray.size]
  · obtain ⟨rank, hr⟩ := h.acy
    refine ⟨rank, fun y hy z hz hp => ?_⟩
    have hpl : hasP l z = true := by
      obtain ⟨u, hu, rfl⟩ := hasP_iff.1 hp
      rcases List.mem_or_eq_of_mem_set (hl u hu) with h1 | rfl
      · exact has_mem h1
      · have := has_mem hm; exact this
    rcases List.mem_or_eq_of_mem_set (hl y hy) with h1 | rfl
    · exact hr y h1 z hz hpl
    · rw [nmd_prs] at hz; simp only [nmd_turned] at hz; simp at hz
theorem drawn_sub {l l' : List Pc} (h : DrawnH l) (hn : l'.length ≤ l.length) (hl : ∀ x ∈ l', x ∈ l) : DrawnH l' := ⟨by have := h.1; omega, fun x hx => h.2.1 x (hl x hx), fun m hm hs => h.2.2 m (fun x hx => hl x (hm x hx)) hs⟩

end Go.Proofs.YtfdhaigmekmboaaDoor

/- Walks: drawn paths, contents, steps and stores. -/
namespace Go.Proofs.YtfdhaigmekmboaaDoor
open Go.RowKit

def pathB (s : ByteArray) : Bool := decide (bs s = [47]) || (match pathParts (bs s) with | some (_ :: _) => true | _ => false)
def pathS (s : ByteArray) : Bool := decide (s.size ≤ 12) && pathB s
def sizeS (s : ByteArray) : Bool := decide (s.size ≤ 12)
def contS (s : ByteArray) : Bool := decide (s.size ≤ 12) && contOk (bs s)
def allP (p : ByteArray → Bool) (l : List Value) : Bool := l.all fun v => match v with | .string s => p s | _ => false
theorem strP_cell {p : ByteArray → Bool} {cs : Array Value} {t : TypeId} (h : allP p cs.toList = true) {j : Nat} (hj : j < cs.size) : ∃ s : ByteArray, p s = true ∧ ∀ (W : World) (b : Nat), W.heap[b]? = some (.cells cs t (0, 0)) → W.cell? ⟨b, j, none⟩ = some (.string s) := by
  have hm : cs[j] ∈ cs.toList := by simp
  have h1 := List.all_eq_true.1 h _ hm
  cases hv : cs[j] with
  | string s =>
    rw [hv] at h1
    exact ⟨s, h1, fun W b hW => by simp [World.cell?, hW, hj, hv]⟩
  | _ => rw [hv] at h1; cases h1
def allI (lo hi : Int) (l : List Value) : Bool := l.all fun v => match v with | .int .i64 x => decide (lo ≤ x) && decide (x ≤ hi) | _ => false
theorem intI_cell {lo hi : Int} {cs : Array Value} {t : TypeId} (h : allI lo hi cs.toList = true) {j : Nat} (hj : j < cs.size) : ∃ x : Int, lo ≤ x ∧ x ≤ hi ∧ ∀ (W : World) (b : Nat), W.heap[b]? = some (.cells cs t (0, 0)) → W.cell? ⟨b, j, none⟩ = some (.int .i64 x) := by
  have hm : cs[j] ∈ cs.toList := by simp
  have h1 := List.all_eq_true.1 h _ hm
  cases hv : cs[j] with
  | int k x =>
    rw [hv] at h1
    cases k <;> simp at h1
    exact ⟨x, h1.1, h1.2, fun W b hW => by simp [World.cell?, hW, hj, hv]⟩
  | _ => rw [hv] at h1; cases h1

/-- A path; the reader has been asked at most twice more. -/
def PathD (n : Int) (w : World) (g : Nat) (l : List Int) (p : Nat) (e : Ending) (w' : World) : Prop :=
  ∃ (s : ByteArray) (p' : Nat), e = .returned (.string s) ∧ s.size ≤ 12 ∧ (n ≤ 0 → pathB s = true) ∧ p' ≤ p + 2 ∧ Reader w' g l p' ∧ w.grownBy w' (some g)

set_option maxHeartbeats 2000000 in
set_option maxRecDepth 100000 in
theorem spec_l20Path_c (g p : Nat) (l : List Int) (n : Int) (w : World) (h : Reader w g l p) (hp : p ≤ 109951162777) (hn0 : 0 ≤ n) (hn9 : n ≤ 1000000) :
    Calls Tryd.prog 76 #[.pointer (some ⟨g, 0, none⟩), .int .i64 n] w (PathD n w g l p) := by
  go_enter Tryd.func76, Tryd.ntmps76
  go_wp2_with fail
  refine (spec_odd_c g p l n _ h (by omega) hn0 hn9).mono ?_
  rintro e w1 ⟨x, p1, rfl, hx0, hp1, r1, g1⟩
  have hgl : g < w1.heap.size := r1.lt
  have R := hid r1
  have G1 := hid g1
  have HX0 := hid hx0
  clear r1 h g1 hx0
  cases x
  · go_wp2_with fail
    refine (spec_pick_c g p1 l 13 _ ((R.out.alloc _).alloc _) (by omega)).mono ?_
    rintro e w2 ⟨x, rfl, x0, x3, _, r2, g2⟩
    have hhA := (g2.block w1.heap.size (by simp; omega) (some_ne (by omega))).trans ((Below.heap_alloc _ _ _ (by simp)).trans (heap_alloc_new w1 _))
    have hhB := (g2.block (w1.heap.size + 1) (by simp) (some_ne (by omega))).trans (second_heap w1 _ _)
    have x3' := x3 (by omega)
    obtain ⟨j, rfl⟩ : ∃ j : Nat, x = j := ⟨x.toNat, by omega⟩
    have hj : j < 13 := by omega
    obtain ⟨z, z0, z1, hz⟩ := intI_cell (lo := 0) (hi := 7) (t := 3) (cs := #[.int .i64 0, .int .i64 1, .int .i64 2, .int .i64 3, .int .i64 4, .int .i64 5, .int .i64 6, .int .i64 7, .int .i64 0, .int .i64 1, .int .i64 2, .int .i64 3, .int .i64 4]) (by rfl) hj
    obtain ⟨i, rfl⟩ : ∃ i : Nat, z = i := ⟨z.toNat, by omega⟩
    have hi : i < 8 := by omega
    obtain ⟨s, hs, hs0⟩ := strP_cell (p := pathS) (t := 9) (cs := #[.string ⟨#[47, 97]⟩, .string ⟨#[47, 98]⟩, .string ⟨#[47, 99]⟩, .string ⟨#[47, 97, 47, 98]⟩, .string ⟨#[47, 98, 47, 97]⟩, .string ⟨#[47, 98, 47, 98, 47, 97]⟩, .string ⟨#[47, 97, 47, 98, 47, 99]⟩, .string ⟨#[47]⟩]) (by decide +kernel) hi
    have hcB := hz _ _ hhB
    have hcA := hs0 _ _ hhA
    have HS := hid hs
    have G2 := hid g2
    have R2 := hid r2
    clear hz hs0 hhA hhB x3 g2 r2 hs
    go_wp2
    go_ret
    have hss := HS.out
    unfold pathS at hss
    rw [Bool.and_eq_true, decide_eq_true_eq] at hss
    exact ⟨_, _, rfl, hss.1, fun _ => hss.2, by omega, R2.out, G1.out.trans (gb_unalloc (gb_unalloc G2.out))⟩
  · go_wp2_with fail
    refine (spec_pick_c g p1 l 6 _ (R.out.alloc _) (by omega)).mono ?_
    rintro e w2 ⟨x, rfl, x0, x3, _, r2, g2⟩
    have hh := (g2.block w1.heap.size (by simp) (some_ne (by omega))).trans (heap_alloc_new w1 _)
    have x3' := x3 (by omega)
    obtain ⟨j, rfl⟩ : ∃ j : Nat, x = j := ⟨x.toNat, by omega⟩
    have hj : j < 6 := by omega
    obtain ⟨s, hs, h0⟩ := strP_cell (p := sizeS) (t := 9) (cs := #[.string ⟨#[]⟩, .string ⟨#[97]⟩, .string ⟨#[47, 47]⟩, .string ⟨#[47, 97, 47]⟩, .string ⟨#[47, 65]⟩, .string ⟨#[47, 97, 47, 98, 47, 99, 47, 100]⟩]) (by rfl) hj
    have hc := h0 _ _ hh
    have HS := hid hs
    have G2 := hid g2
    have R2 := hid r2
    clear h0 hh x3 g2 r2 hs
    go_wp2
    go_ret
    exact ⟨_, _, rfl, of_decide_eq_true HS.out, fun h => (by have := HX0.out h; cases this), by omega, R2.out, G1.out.trans (gb_unalloc G2.out)⟩

def ContD (w : World) (g : Nat) (l : List Int) (p : Nat) (e : Ending) (w' : World) : Prop :=
  ∃ (s : ByteArray), e = .returned (.string s) ∧ contS s = true ∧ Reader w' g l (p + 1) ∧ w.grownBy w' (some g)

set_option maxHeartbeats 2000000 in
set_option maxRecDepth 100000 in
theorem spec_l20Content_c (g p : Nat) (l : List Int) (w : World) (h : Reader w g l p) (hp : p ≤ 109951162777) :
    Calls Tryd.prog 79 #[.pointer (some ⟨g, 0, none⟩)] w (ContD w g l p) := by
  have hgl : g < w.heap.size := h.lt
  have R := hid h
  clear h
  go_enter Tryd.func79, Tryd.ntmps79
  go_wp2_with fail
  refine (spec_pick_c g p l 4 _ (R.out.alloc _) (by omega)).mono ?_
  rintro e w2 ⟨x, rfl, x0, x3, _, r2, g2⟩
  have hh := (g2.block w.heap.size (by simp) (some_ne (by omega))).trans (heap_alloc_new w _)
  have x3' := x3 (by omega)
  obtain ⟨j, rfl⟩ : ∃ j : Nat, x = j := ⟨x.toNat, by omega⟩
  have hj : j < 4 := by omega
  obtain ⟨s, hs, h0⟩ := strP_cell (p := contS) (t := 9) (cs := #[.string ⟨#[104, 105]⟩, .string ⟨#[114, 101, 100, 32, 103, 114, 101, 101, 110]⟩, .string ⟨#[]⟩, .string ⟨#[120]⟩]) (by decide +kernel) hj
  have hc := h0 _ _ hh
  have HS := hid hs
  have G2 := hid g2
  have R2 := hid r2
  clear h0 hh x3 g2 r2 hs
  go_wp2
  go_ret
  exact ⟨_, rfl, HS.out, R2.out, gb_unalloc G2.out⟩

/-- A good store that is not empty. -/
def Good1 (l : List Pc) : Prop := Good l ∧ l ≠ []
theorem Good1.le {a b : List Pc} (h : Good1 a) (hb : Good b) (hl : Le a b) : Good1 b := by
  refine ⟨hb, ?_⟩
  rintro rfl
  have := hl.len h.1.1 hb.1
  have h0 := h.2
  cases a with
  | nil => exact h0 rfl
  | cons x r => simp at this
theorem Good.small {l : List Pc} (h : Good l) : (∀ x ∈ l, x.text.size ≤ 1048576) ∧ l.length ≤ 1048576 := ⟨fun x hx => by have := st_text h.1 hx; omega, by have := (st_in h.1).1; omega⟩
theorem path_cases {s : ByteArray} (h : pathB s = true) : bs s = [47] ∨ ∃ ws, pathParts (bs s) = some ws ∧ ws ≠ [] := by
  unfold pathB at h
  rw [Bool.or_eq_true, decide_eq_true_eq] at h
  rcases h with h | h
  · exact .inl h
  · cases hp : pathParts (bs s) with
    | none => rw [hp] at h; cases h
    | some ws =>
      rw [hp] at h
      cases ws with
      | nil => cases h
      | cons x r => exact .inr ⟨_, rfl, by simp⟩

def StepD (w : World) (g B : Nat) (l : List Int) (p : Nat) (e : Ending) (w' : World) : Prop :=
  ∃ (v : Value) (xs : List Pc) (root : Int) (ok : Bool) (p' : Nat), e = .returned (.tuple #[v, .int .i64 root, .bool ok]) ∧ OwnP w' B v xs ∧ Good1 xs ∧ p' ≤ p + 4 ∧ Reader w' g l p' ∧ w.grownBy w' (some g)

set_option maxHeartbeats 2000000 in
set_option maxRecDepth 100000 in
theorem spec_l20Step_c (g p B : Nat) (l : List Int) (v : Value) (xs : List Pc) (root : Int) (w : World) (h : Reader w g l p) (hp : p ≤ 10995116277) (ho : OwnP w B v xs) (hg : g < B) (hB : B ≤ w.heap.size) (hx : Good1 xs) :
    Calls Tryd.prog 66 #[.pointer (some ⟨g, 0, none⟩), v, .int .i64 root] w (StepD w g B l p) := by
  have HX := hid hx
  have HO := hid ho
  clear ho hx
  go_enter Tryd.func66, Tryd.ntmps66
  go_wp2_with fail
  refine (spec_l20Path_c g p l 0 _ h (by omega) (by omega) (by omega)).mono ?_
  rintro e w1 ⟨s, p1, rfl, hs12, hpb, hp1, r1, g1⟩
  have R1 := hid r1
  have G1 := hid g1
  have O1 := hid (HO.out.far g1 (fun b hb => by simp at hb; omega))
  have s1 := g1.size
  have HPC := hid (path_cases (hpb (by omega)))
  have HPB := hid hpb
  have hb1 := str_beq' s [47]
  rw [show (strL [47]).toList = [47] by rw [ByteArray.toList_eq]; rfl] at hb1
  clear r1 g1 h HO hpb
  by_cases h47 : bs s = [47]
  · have hq : (s.toList == [47]) = true := by rw [hb1]; exact decide_eq_true h47
    clear hb1 h47
    go_wp2
    go_ret3
    exact ⟨_, xs, root, false, p1, rfl, O1.out, HX.out, by omega, R1.out, G1.out⟩
  · have hq : (s.toList == [47]) = false := by rw [hb1]; exact decide_eq_false h47
    obtain ⟨ws, hws, hw0⟩ : ∃ ws, pathParts (bs s) = some ws ∧ ws ≠ [] := by
      rcases HPC.out with h | h
      · exact absurd h h47
      · exact h
    have HWS := hid hws
    have HW0 := hid hw0
    clear hb1 h47 hws hw0
    go_wp2_with fail
    refine (spec_pick_c g p1 l 5 _ R1.out (by omega)).mono ?_
    rintro e w2 ⟨x, rfl, x0, x3, _, r2, g2⟩
    have R2 := hid r2
    have G2 := hid (G1.out.trans g2)
    have O2 := hid (O1.out.far g2 (fun b hb => by simp at hb; omega))
    have s2 := g2.size
    clear r2 g2 O1 R1 G1 x3
    by_cases hx0 : x = 0
    · have hxd : (x == 0) = true := by simp [hx0]
      clear hx0 x0
      obtain ⟨R, hR⟩ : ∃ R, dropAt xs root (bs s) = R := ⟨_, rfl⟩
      have HG := hid (show Good R.1 ∧ Le xs R.1 by rw [← hR]; exact dropAt_good HX.out.1 HWS.out HW0.out)
      have HR := hid hR
      obtain ⟨xs', root', ok⟩ := R
      clear hR
      go_wp2_with fail
      refine (spec_DropAt_c _ xs root s _ (xs', root', ok) HR.out (Rd.of_own O2.out) HX.out.1.small.1 HX.out.1.small.2 (by omega)).mono ?_
      rintro e w3 ⟨v', rfl, o3, b3⟩
      have O3 := hid (o3.less (by omega : B ≤ w2.heap.size))
      have R3 := hid (R2.out.on b3)
      have G3 := hid (G2.out.trans (gb_of_below b3 (some g)))
      clear o3 b3 R2 G2 O2
      go_wp2
      go_ret3
      exact ⟨_, xs', root', ok, _, rfl, O3.out, HX.out.le HG.out.1 HG.out.2, by omega, R3.out, G3.out⟩
    · have hxd : (x == 0) = false := by simp [hx0]
      clear hx0 x0
      go_wp2_with fail
      refine (spec_l20Content_c g _ l _ R2.out (by omega)).mono ?_
      rintro e w3 ⟨ct, rfl, hct, r3, g3⟩
      have R3 := hid r3
      have G3 := hid (G2.out.trans g3)
      have O3 := hid (O2.out.far g3 (fun b hb => by simp at hb; omega))
      have s3 := g3.size
      have HCT := hid (show ct.size ≤ 12 ∧ contOk (bs ct) = true by unfold contS at hct; rw [Bool.and_eq_true, decide_eq_true_eq] at hct; exact hct)
      clear r3 g3 R2 G2 O2 hct
      obtain ⟨R, hR⟩ : ∃ R, writeAt xs root (bs s) (bs ct) = R := ⟨_, rfl⟩
      have HG := hid (show Good R.1 ∧ Le xs R.1 by rw [← hR]; exact writeAt_good HX.out.1 HWS.out HW0.out HCT.out.2)
      have HR := hid hR
      obtain ⟨xs', root', ok⟩ := R
      clear hR
      go_wp2_with fail
      refine (spec_WriteAt_c _ xs root s ct _ (xs', root', ok) HR.out (Rd.of_own O3.out) HX.out.1.small.1 HX.out.1.small.2 (by omega) (by have := HCT.out.1; omega)).mono ?_
      rintro e w4 ⟨v', rfl, o4, b4⟩
      have O4 := hid (o4.less (by omega : B ≤ w3.heap.size))
      have R4 := hid (R3.out.on b4)
      have G4 := hid (G3.out.trans (gb_of_below b4 (some g)))
      clear o4 b4 R3 G3 O3
      go_wp2
      go_ret3
      exact ⟨_, xs', root', ok, _, rfl, O4.out, HX.out.le HG.out.1 HG.out.2, by omega, R4.out, G4.out⟩

end Go.Proofs.YtfdhaigmekmboaaDoor

/- A region that draws its order, held by an invariant; an operation may use up what other ones' slots held; a slot stands as it was as long as its writers wait, over others too. No program in sight. -/
namespace Go.Proofs.YtfdhaigmekmboaaDoor
open Go.RowKit

section
variable {P : Program} {ops : Array Oper}
/-- Operation j waits for i, over others too. -/
def reachT (ops : Array Oper) : Nat → Nat → Nat → Bool
  | 0, _, _ => false
  | f + 1, j, i => match ops[j]? with
    | some o => o.after.any fun e => Region.binds .any e && (e.on == i || reachT ops f e.on i)
    | none => false
theorem reachT_closed {listed : Array Bool} (hcl : ∀ (j : Nat) (o : Oper), ops[j]? = some o → listed.getD j false = true → ∀ e ∈ o.after, Region.binds .any e = true → listed.getD e.on false = true) :
    ∀ (f j i : Nat), reachT ops f j i = true → listed.getD j false = true → listed.getD i false = true
  | 0, _, _, h, _ => by cases h
  | f + 1, j, i, h, hl => by
    unfold reachT at h
    cases ho : ops[j]? with
    | none => rw [ho] at h; cases h
    | some o =>
      rw [ho] at h
      obtain ⟨k, hk, hke⟩ := Array.any_eq_true.1 h
      simp only [Bool.and_eq_true, Bool.or_eq_true, beq_iff_eq] at hke
      have hm := hcl j o ho hl _ (Array.getElem_mem hk) hke.1
      rcases hke.2 with e | e
      · rw [← e]; exact hm
      · exact reachT_closed hcl f _ i e hm
def freshT (ops : Array Oper) (i t : Nat) : Bool := (List.range ops.size).all fun j => match ops[j]? with
  | some o => o.dst != some t || j == i || reachT ops 6 j i
  | none => true
theorem wp_region_inv2e {id : Nat} {Q : Exit → Act → World → Prop} {a0 : Act} {w0 : World} (hm : P.follows .mixedOrders = true) (hp : plainG ops = true) (hgB : guardB ops = true) (hback : backB ops = true) (hptr : ptrB ops = true)
    (hdst : (ops.all fun o => match o.dst with | some t => decide (t < a0.tmps.size) | none => true) = true)
    (J : Nat → World → Prop) (S : Nat → World → World → Prop) (F : Nat → Value → World → Prop) (cons : Nat → Nat → Bool) (hJ : J 0 w0.drew) (hF : ∀ j i v w w', S j w w' → cons j i = false → i ≠ j → Region.waitsFor .any ops i j = false → (∀ oj, ops[j]? = some oj → ∀ e ∈ oj.after, Region.binds .any e = true → cons e.on i = false) → F i v w → F i v w')
    (hgrd : ∀ (i : Nat) (o : Oper) (d : Nat) (b : Bool), ops[i]? = some o → o.guard = some (d, b) → ∀ v w, F d v w → v = .bool b)
    (hop : ∀ (i : Nat) (o : Oper), ops[i]? = some o → ∀ (n : Nat) (a : Act) (w : World), n < ops.size → J n w →
      (∀ t, freshT ops i t = true → a.tmps.getD t undef = a0.tmps.getD t undef) →
      (∀ e ∈ o.after, Region.binds .any e = true → (∀ j, j < ops.size → cons j e.on = true → j = i) → F e.on (slotOf2 ops e.on a) w) →
      o.wp P a w (fun a' w' => ∃ v, a' = a.put o.dst v ∧ J (n + 1) w' ∧ S i w w' ∧ F i (if o.dst.isSome then v else slotOf2 ops i a) w') Q)
    (hcg : ∀ (i : Nat) (o : Oper) (d : Nat) (b : Bool), ops[i]? = some o → o.guard = some (d, b) → ∀ j, cons j d = false)
    (hend : ∀ (a : Act) (w : World), J ops.size w → a.tmps.size = a0.tmps.size → a.defers = a0.defers → (∀ t, looseB ops t = true → a.tmps.getD t undef = a0.tmps.getD t undef) → (∀ (i : Nat) (o : Oper), ops[i]? = some o → (∀ j, cons j i = false) → F i (slotOf2 ops i a) w) → Q .normal a w) :
    (Code.region id ops true).wp P Q a0 w0 := by
  refine wp_region_any hm ?_
  have hdst' : ∀ (i : Nat) (o : Oper) (t : Tmp), ops[i]? = some o → o.dst = some t → t < a0.tmps.size := by
    intro i o t hi ht
    have hlt := (Array.getElem?_eq_some_iff.1 hi)
    obtain ⟨hlt, he⟩ := hlt
    have h1 := Array.all_eq_true.1 hdst i hlt
    rw [he, ht] at h1
    exact of_decide_eq_true h1
  have hback' : ∀ (i : Nat) (o : Oper), ops[i]? = some o → ∀ e ∈ o.after, Region.binds .any e = true → e.on < i := by
    intro i o hi e he hbe
    have h1 := List.all_eq_true.1 hback i (List.mem_range.2 (Array.getElem?_eq_some_iff.1 hi).1)
    simp only [hi] at h1
    obtain ⟨k, hk, hke⟩ := Array.getElem_of_mem he
    have h2 := Array.all_eq_true.1 h1 k hk
    rw [hke, hbe] at h2
    exact of_decide_eq_true (by simpa using h2)
  suffices H : ∀ (f n : Nat) (listed : Array Bool) (a : Act) (w : World), listed.size = ops.size → listed.toList.count false = f → n + f = ops.size → J n w → a.tmps.size = a0.tmps.size → a.defers = a0.defers →
      (∀ j o, ops[j]? = some o → listed.getD j false = true → ∀ e ∈ o.after, Region.binds .any e = true → listed.getD e.on false = true) →
      (∀ t, (∀ (i : Nat) (o : Oper), ops[i]? = some o → listed.getD i false = true → o.dst ≠ some t) → a.tmps.getD t undef = a0.tmps.getD t undef) →
      (∀ (i : Nat) (o : Oper), ops[i]? = some o → listed.getD i false = true → (∀ j, listed.getD j false = true → cons j i = false) → F i (slotOf2 ops i a) w) → wpAny P .any ops Q f listed a w by
    refine H _ 0 _ _ _ (by simp) (by simp) (by simp) hJ rfl rfl ?_ ?_ ?_
    · intro j o _ h; rw [getD_replicate_false] at h; cases h
    · intro t _; rfl
    · intro i o _ h; rw [getD_replicate_false] at h; cases h
  intro f
  induction f with
  | zero =>
    intro n listed a w hs hc hnf hj hsz hdf _ hsame hhold
    obtain rfl : n = ops.size := by omega
    have hall : ∀ i, i < ops.size → listed.getD i false = true := by
      intro i hi
      have hnot : false ∉ listed.toList := List.count_eq_zero.1 hc
      rw [Array.getD_eq_getD_getElem?, Array.getElem?_eq_getElem (by omega)]
      simp only [Option.getD_some]
      cases hv : listed[i]'(by omega) with
      | true => rfl
      | false => exact absurd (by rw [← hv]; simp) hnot
    refine ⟨?_, hend a w hj hsz hdf (fun t ht => hsame t fun i o hi _ => ?_) (fun i o hi hcn => hhold i o hi (hall i (Array.getElem?_eq_some_iff.1 hi).1) (fun j _ => hcn j))⟩
    · rw [List.eq_nil_iff_forall_not_mem]
      intro i hi
      obtain ⟨h1, o, ho, _⟩ := mem_ready.1 hi
      have h2 := hall i (Array.getElem?_eq_some_iff.1 ho).1
      rw [Array.getD_eq_getD_getElem?, Array.getElem?_eq_getElem (by have := (Array.getElem?_eq_some_iff.1 ho).1; omega)] at h1 h2
      simp only [Option.getD_some] at h1 h2
      rw [h1] at h2; cases h2
    · have hl := Array.all_eq_true.1 ht i (Array.getElem?_eq_some_iff.1 hi).1
      rw [(Array.getElem?_eq_some_iff.1 hi).2] at hl
      simpa using hl
  | succ f ih =>
    intro n listed a w hs hc hnf hj hsz hdf hcl hsame hhold
    refine ⟨fun h0 => ?_, fun i hi => ?_⟩
    · exfalso
      have hmem : false ∈ listed.toList := List.count_pos_iff.1 (by omega)
      have hex : ∃ i, i < ops.size ∧ listed.getD i true = false := by
        obtain ⟨k, hk, hke⟩ := List.getElem_of_mem hmem
        refine ⟨k, by simpa [hs] using hk, ?_⟩
        rw [Array.getD_eq_getD_getElem?, Array.getElem?_eq_getElem (by simpa using hk)]
        simpa using hke
      obtain ⟨i, ⟨hi, hf⟩, hmin⟩ := exists_least hex
      have hr : i ∈ Region.ready .any ops listed := mem_ready.2 ⟨hf, ops[i], Array.getElem?_eq_getElem hi, fun e he hbe => by
        have hlt := hback' i _ (Array.getElem?_eq_getElem hi) e he hbe
        have := hmin e.on hlt
        rw [Array.getD_eq_getD_getElem?, Array.getElem?_eq_getElem (by omega)] at this ⊢
        simp only [Option.getD_some] at this ⊢
        cases hv : listed[e.on]'(by omega) with
        | true => rfl
        | false => exact absurd ⟨by omega, hv⟩ this⟩
      rw [h0] at hr; cases hr
    · obtain ⟨hun, o, ho, hdeps⟩ := mem_ready.1 hi
      have hil : i < listed.size := by rw [hs]; exact (Array.getElem?_eq_some_iff.1 ho).1
      have hunf : listed.getD i false = false := by
        rw [Array.getD_eq_getD_getElem?, Array.getElem?_eq_getElem hil] at hun ⊢
        simpa using hun
      have hslot := plainG_spec hp ho
      have hwant : Region.wanted o (yielded ops a.tmps) = true := by
        unfold Region.wanted
        cases hgd : o.guard with
        | none => rfl
        | some db =>
          obtain ⟨d, b⟩ := db
          obtain ⟨e, he, hed, hbe, od, hod, t, ht⟩ := guardB_spec hgB ho hgd
          have hl := hdeps e he hbe
          rw [hed] at hl
          have hv := hgrd i o d b ho hgd _ _ (hhold d od hod hl (fun j _ => hcg i o d b ho hgd j))
          have hs2 : slotOf2 ops d a = a.tmps.getD t undef := by unfold slotOf2; rw [hod]; simp [refOf, ht]
          rw [hs2] at hv
          have hy : yielded ops a.tmps d = some b := by
            unfold yielded
            rw [hod]
            simp only [Option.bind_some, ht]
            rw [Array.getD_eq_getD_getElem?] at hv
            cases hx : a.tmps[t]? with
            | none => rw [hx] at hv; simp [undef] at hv
            | some x => rw [hx] at hv; simp at hv; rw [hv]
          simp [hy]
      unfold wpOp
      simp only [ho]
      rw [if_pos hwant]
      refine .inl (Oper.wp_mono ?_ (hop i o ho n a w (by omega) hj (fun t ht => hsame t fun j o' hj' hl => ?_) (fun e he hbe hcn => ?_)))
      · rintro a' w' ⟨v, rfl, hj', hS, hF'⟩
        have hother : ∀ j o', ops[j]? = some o' → j ≠ i → listed.getD j false = true → slotOf2 ops j (a.put o.dst v) = slotOf2 ops j a := by
          intro j o' hj2 hne hl
          unfold slotOf2
          rw [hj2]
          simp only [Option.bind_some]
          cases ht : refOf o' with
          | none => simp
          | some t =>
            simp only
            cases hd : o.dst with
            | none => simp [Act.put]
            | some u =>
              rw [getD_put _ _ _ _ (by rw [hsz]; exact hdst' i o u ho hd), if_neg]
              rintro rfl
              cases hod : o'.dst with
              | some t' =>
                simp only [refOf, hod, Option.some.injEq] at ht
                subst ht
                exact hslot j o' _ hj2 hne hd hod
              | none =>
                simp only [refOf, hod] at ht
                rcases ptrB_spec hptr hj2 hod ht with hall | ⟨e, he, hbe, o2, ho2, hd2⟩
                · exact hall i o ho hd
                · have hle := hcl j o' hj2 hl e he hbe
                  have hei : e.on ≠ i := by rintro h; rw [h, hunf] at hle; cases hle
                  exact hslot e.on o2 _ ho2 hei hd hd2
        have hget : ∀ j, (listed.setIfInBounds i true).getD j false = true → j = i ∨ listed.getD j false = true := by
          intro j hjl
          by_cases hji : j = i
          · exact .inl hji
          · right
            rw [Array.getD_eq_getD_getElem?, Array.getElem?_setIfInBounds_ne (Ne.symm hji)] at hjl
            rw [Array.getD_eq_getD_getElem?]; exact hjl
        have hget' : ∀ j, listed.getD j false = true → (listed.setIfInBounds i true).getD j false = true := by
          intro j hjl
          by_cases hji : j = i
          · rw [hji] at hjl; rw [hunf] at hjl; cases hjl
          · rw [Array.getD_eq_getD_getElem?, Array.getElem?_setIfInBounds_ne (Ne.symm hji)]
            rw [Array.getD_eq_getD_getElem?] at hjl; exact hjl
        refine ih (n + 1) _ _ _ (by simpa using hs) (by have := count_step listed i hun; omega) (by omega) hj' ?_ ?_ ?_ ?_ ?_
        · unfold Act.put; cases o.dst <;> simp [hsz]
        · unfold Act.put; cases o.dst <;> simp [hdf]
        · intro j oj hoj hl e he hbe
          rcases hget j hl with rfl | hl
          · obtain rfl : oj = o := Option.some.inj (hoj.symm.trans ho)
            exact hget' _ (hdeps e he hbe)
          · exact hget' _ (hcl j oj hoj hl e he hbe)
        · intro t ht
          have hne : o.dst ≠ some t := ht i o ho (by rw [Array.getD_eq_getD_getElem?, Array.getElem?_setIfInBounds_self_of_lt hil]; rfl)
          rw [← hsame t (fun j oj hoj hl => ht j oj hoj (hget' j hl))]
          cases hd : o.dst with
          | none => simp [Act.put]
          | some u =>
            rw [getD_put _ _ _ _ (by rw [hsz]; exact hdst' i o u ho hd), if_neg]
            rintro rfl
            exact hne hd
        · intro j oj hoj hl hcn
          by_cases hji : j = i
          · subst hji
            obtain rfl : oj = o := Option.some.inj (hoj.symm.trans ho)
            have : slotOf2 ops j (a.put oj.dst v) = if oj.dst.isSome then v else slotOf2 ops j a := by
              cases hd : oj.dst with
              | none => simp [Act.put]
              | some u =>
                unfold slotOf2
                rw [hoj]
                simp only [Option.bind_some, refOf, hd]
                rw [getD_put _ _ _ _ (by rw [hsz]; exact hdst' j oj u hoj hd)]
                simp
            rw [this]; exact hF'
          · rcases hget j hl with h | hl
            · exact absurd h hji
            · rw [hother j oj hoj hji hl]
              exact hF i j _ w w' hS (hcn i (by rw [Array.getD_eq_getD_getElem?, Array.getElem?_setIfInBounds_self_of_lt hil]; rfl)) hji (by
                cases hwt : Region.waitsFor .any ops j i
                · rfl
                · exfalso
                  obtain ⟨o2, ho2, x, hx, hxb, hon⟩ := Region.waitsFor_spec hwt
                  obtain rfl : o2 = oj := Option.some.inj (ho2.symm.trans hoj)
                  have := hcl j o2 hoj hl x hx hxb
                  rw [hon, hunf] at this; cases this) (fun oj' hoj' e he hbe => hcn e.on (hget' _ (by
                obtain rfl : oj' = o := Option.some.inj (hoj'.symm.trans ho)
                exact hdeps e he hbe))) (hhold j oj hoj hl (fun q hq => hcn q (hget' q hq)))
      · have h1 := List.all_eq_true.1 ht j (List.mem_range.2 (Array.getElem?_eq_some_iff.1 hj').1)
        simp only [hj', Bool.or_eq_true, bne_iff_ne, beq_iff_eq] at h1
        rcases h1 with (h1 | h1) | h1
        · exact h1
        · subst h1; rw [hunf] at hl; cases hl
        · have := reachT_closed hcl 6 j i h1 hl
          rw [hunf] at this; cases this
      · have hd := hdeps e he hbe
        have hlt := hback' i o ho e he hbe
        refine hhold e.on ops[e.on] (Array.getElem?_eq_getElem (by have := (Array.getElem?_eq_some_iff.1 ho).1; omega)) hd (fun q hq => ?_)
        have hqs : q < ops.size := by
          by_cases h : q < ops.size
          · exact h
          · rw [Array.getD_eq_getD_getElem?, Array.getElem?_eq_none (by omega)] at hq; simp at hq
        cases hc : cons q e.on
        · rfl
        · have hqi := hcn q hqs hc
          subst hqi
          rw [hunf] at hq; cases hq

theorem wp_region_inv3e {id : Nat} {Q : Exit → Act → World → Prop} {a0 : Act} {w0 : World} (hm : P.follows .mixedOrders = true) (hp : plainG ops = true) (hgB : guardB ops = true) (hback : backB ops = true) (hptr : ptrB ops = true)
    (hdst : (ops.all fun o => match o.dst with | some t => decide (t < a0.tmps.size) | none => true) = true)
    (J : Nat → World → Prop) (S : Nat → World → World → Prop) (F : Nat → Value → World → Prop) (cons : Nat → Nat → Bool) (hJ : J 0 w0.drew) (hF : ∀ j i v w w', S j w w' → cons j i = false → i ≠ j → Region.waitsFor .any ops i j = false → (∀ oj, ops[j]? = some oj → ∀ e ∈ oj.after, Region.binds .any e = true → cons e.on i = false) → F i v w → F i v w')
    (hgrd : ∀ (i : Nat) (o : Oper) (d : Nat) (b : Bool), ops[i]? = some o → o.guard = some (d, b) → ∀ v w, F d v w → v = .bool b)
    (hop : ∀ (i : Nat) (o : Oper), ops[i]? = some o → ∀ (n : Nat) (a : Act) (w : World), n < ops.size → J n w →
      (∀ t, freshT ops i t = true → a.tmps.getD t undef = a0.tmps.getD t undef) →
      (∀ e ∈ o.after, Region.binds .any e = true → (∀ j, j < ops.size → cons j e.on = true → j = i) → F e.on (slotOf2 ops e.on a) w) →
      o.wp P a w (fun a' w' => ∃ v, a' = a.put o.dst v ∧ J (n + 1) w' ∧ S i w w' ∧ F i (if o.dst.isSome then v else slotOf2 ops i a) w') Q)
    (hcg : ∀ (i : Nat) (o : Oper) (d : Nat) (b : Bool), ops[i]? = some o → o.guard = some (d, b) → ∀ j, cons j d = false)
    (hend : ∀ (tm : Array Value) (w : World), J ops.size w → (∀ (i : Nat) (o : Oper), ops[i]? = some o → (∀ j, cons j i = false) → F i (slotOf2 ops i ⟨tm, a0.defers⟩) w) → Q .normal ⟨refillL ops.toList a0.tmps tm, a0.defers⟩ w) :
    (Code.region id ops true).wp P Q a0 w0 := by
  refine wp_region_inv2e hm hp hgB hback hptr hdst J S F cons hJ hF hgrd hop hcg ?_
  rintro ⟨tm, df⟩ w hj hsz hdf hb hFF
  obtain rfl : df = a0.defers := hdf
  have e := refill_eq hsz hb
  have := hend tm w hj hFF
  rw [← e] at this
  exact this

end
end Go.Proofs.YtfdhaigmekmboaaDoor

/- Walks: drawn stores. -/
namespace Go.Proofs.YtfdhaigmekmboaaDoor
open Go.RowKit

theorem setP_flat1 : ∀ (xs : List Pc) (j : Nat) (x : Pc) (r : Int), xs[j]? = some x → (xs.flatMap encP).set (j * 2) (.int .i64 r) = (xs.set j ⟨r, x.text⟩).flatMap encP
  | [], j, x, r, h => by simp at h
  | a :: t, 0, x, r, h => by simp at h; subst h; rfl
  | a :: t, j + 1, x, r, h => by
    have := setP_flat1 t j x r (by simpa using h)
    rw [List.set_cons_succ, List.flatMap_cons, List.flatMap_cons, ← this, show (j + 1) * 2 = j * 2 + 2 by omega]
    rfl
theorem setP_flat2 : ∀ (xs : List Pc) (j : Nat) (x : Pc) (u : ByteArray), xs[j]? = some x → (xs.flatMap encP).set (j * 2 + 1) (.string u) = (xs.set j ⟨x.print, u⟩).flatMap encP
  | [], j, x, u, h => by simp at h
  | a :: t, 0, x, u, h => by simp at h; subst h; rfl
  | a :: t, j + 1, x, u, h => by
    have := setP_flat2 t j x u (by simpa using h)
    rw [List.set_cons_succ, List.flatMap_cons, List.flatMap_cons, ← this, show (j + 1) * 2 + 1 = j * 2 + 1 + 2 by omega]
    rfl
theorem own_pc_set {w : World} {B g n c i : Nat} {xs ys : List Pc} {u : Value} (h : OwnP w B (.slice (some ⟨g, 0, none⟩) n c) xs) (hn : xs.length = n) (hi : i < n * 2) (hy : (xs.flatMap encP).set i u = ys.flatMap encP) (hl : ys.length = n) :
    OwnP (w.setCell ⟨g, i, none⟩ u) B (.slice (some ⟨g, 0, none⟩) n c) ys ∧ w.grownBy (w.setCell ⟨g, i, none⟩ u) (some g) ∧ (∃ x, w.cell? ⟨g, i, none⟩ = some x) ∧ w.frozen? ⟨g, i, none⟩ = false := by
  have h' : w.ownsRow B 34 2 (.slice (some ⟨g, 0, none⟩) n c) n (xs.flatMap encP) := by have := h; unfold OwnP Own at this; rwa [hn] at this
  have hs := h'.stored i u
  refine ⟨?_, hs.2, ?_, h'.frozenAt i⟩
  · have h3 := hs.1
    unfold OwnP Own
    rw [hl, ← hy]
    exact h3
  · have hx := h'.cellAt i hi
    have hlen : i < (xs.flatMap encP).length := by rw [flatP_len, hn]; exact hi
    exact ⟨_, hx.trans (List.getElem?_eq_getElem hlen)⟩
theorem own_pc_slice {w : World} {B n : Nat} {v : Value} {xs : List Pc} (h : OwnP w B v xs) (hn : xs.length = n) (h0 : 0 < n) : ∃ g cap, v = .slice (some ⟨g, 0, none⟩) n cap ∧ B ≤ g ∧ g < w.heap.size ∧ n ≤ cap := by
  rcases h.2 with ⟨_, hz⟩ | ⟨g, cap, cur, hv, hbg, hh, hnc, _⟩
  · exfalso
    cases xs with
    | nil => simp at hn; omega
    | cons a r => simp at hz
  · exact ⟨g, cap, by rw [hv, hn], hbg, (Array.getElem?_eq_some_iff.1 hh).1, by omega⟩
theorem good_nil : Good [] := ⟨rfl, fun _ => 0, fun n t h => by cases h⟩
theorem empty_good : (putS [] (strL (folderText []))).2.2 = true ∧ Good1 (putS [] (strL (folderText []))).1 := by
  have ht : textOk (bs (strL (folderText []))) = true := by rw [bs_strL]; exact folder_textOk rfl
  have hp := put_new (l := []) (t := strL (folderText [])) rfl ht rfl (by simp)
  have h2 : (putS [] (strL (folderText []))).2.2 = true := by rw [hp]
  refine ⟨h2, (goodL_put (good_nil.l (-1)) h2 (fun y hy => ?_)).good, ?_⟩
  · rw [nmd_folder rfl] at hy; simp at hy
  · rw [hp]; intro e; have := congrArg List.length e; rw [insP_len] at this; simp at this

/-- A drawn store and a root. -/
def StoreD (n : Int) (w : World) (g : Nat) (l : List Int) (p : Nat) (e : Ending) (w' : World) : Prop :=
  ∃ (v : Value) (xs : List Pc) (root : Int) (p' : Nat), e = .returned (.tuple #[v, .int .i64 root]) ∧ OwnP w' w.heap.size v xs ∧ (n ≤ 0 → Good1 xs) ∧ Drawn xs ∧ p' ≤ p + 30 ∧ Reader w' g l p' ∧ w.grownBy w' (some g)

def dsF (W0 : World) (sl : Value) (xs : List Pc) (gs : Nat) (x : Pc) : List (Value → World → Prop) :=
  [isEmpP W0.heap.size, isV sl, isOwnP W0.heap.size ([] ++ xs), isV sl, isV (.pointer (some ⟨gs, 0, none⟩)), isV (.agg #[.int .i64 x.print, .string x.text]), isLitP W0.heap.size x.print x.text,
   isOwnP W0.heap.size ([] ++ xs ++ [x]), isOwnP W0.heap.size ([] ++ xs ++ [x])]
def dsCons (j i : Nat) : Bool := (j == 2 && i == 0) || (j == 7 && (i == 2 || i == 6))
def dsS (j : Nat) (w w' : World) : Prop := w = w' ∨ Below w.heap.size w w' ∨ (j = 2 ∧ ∃ b, w.heap[b]? = some (.cells #[] 34 (0, 0)) ∧ w.grownBy w' (Value.ownBlock (.slice (some ⟨b, 0, none⟩) 0 0))) ∨ j = 7

set_option maxHeartbeats 2000000 in
set_option maxRecDepth 100000 in
theorem spec_l20Store_c (g p : Nat) (l : List Int) (nn : Int) (w : World) (h : Reader w g l p) (hp : p ≤ 1099511627) (hn0 : 0 ≤ nn) (hn9 : nn ≤ 1000000) :
    Calls Tryd.prog 47 #[.pointer (some ⟨g, 0, none⟩), .int .i64 nn] w (StoreD nn w g l p) := by
  have hgl : g < w.heap.size := h.lt
  have HR := hid h
  have hal : Below w.heap.size w (w.alloc (.cells #[] 34)) := (Below.refl _ _).alloc (Nat.le_refl _) _
  have hown0 : Hid (OwnP (w.alloc (.cells #[] 34)) w.heap.size (.slice (some ⟨w.heap.size, 0, none⟩) 0 0) []) := hid (Own.made _ (Nat.le_refl _))
  obtain ⟨⟨xs0, p0, ok0⟩, hE⟩ : ∃ P, putS [] (strL (folderText [])) = P := ⟨_, rfl⟩
  have HE := hid (show emptyRoot [] = (xs0, p0, ok0) from hE)
  have HG0 := hid (show Good1 xs0 by have := empty_good.2; rw [hE] at this; exact this)
  obtain ⟨i0, hi0, hz0, hz1, hz2⟩ := info_parts info_pcO
  clear h hE
  go_enter Tryd.func47, Tryd.ntmps47
  go_wp2_with fail
  refine (spec_EmptyRoot_c _ [] _ (Rd.of_own hown0.out) (by simp) (by simp)).mono ?_
  rw [HE.out]
  rintro e w1 ⟨v1, rfl, o1, b1⟩
  have d1 := hal.trans (b1.mono hal.size)
  have O1 := hid (o1.less hal.size)
  have R1 := hid (HR.out.on d1)
  have s1 := d1.size
  clear o1 b1 hal hown0
  go_wp2_with fail
  refine (spec_pick_c g p l 6 _ R1.out (by omega)).mono ?_
  rintro e w2 ⟨x, rfl, x0, x3, _, r2, g2⟩
  have R2 := hid r2
  have G2 := hid ((gb_of_below d1 (some g)).trans g2)
  have O2 := hid (O1.out.far g2 (fun b hb => by simp at hb; omega))
  have s2 := g2.size
  have x3' := x3 (by omega)
  obtain ⟨m, rfl⟩ : ∃ m : Nat, x = m := ⟨x.toNat, by omega⟩
  clear r2 g2 x3 O1 R1 d1
  go_wp2
  go_loopw [6, 7, 9] (fun sv rv kv wr => ∃ (q p' : Nat) (xs : List Pc) (root : Int), q ≤ m ∧ kv = .int .i64 q ∧ rv = .int .i64 root ∧ OwnP wr w.heap.size sv xs ∧ Hid (Good1 xs) ∧ p' + 4 * q ≤ p + 1 + 4 * m ∧ Hid (Reader wr g l p') ∧ Hid (w.grownBy wr (some g))) (fun _ _ k _ => (intOf k).toNat)
  case atStart => exact ⟨m, p + 1, xs0, p0, Nat.le_refl _, rfl, rfl, O2.out, HG0, by omega, R2, G2⟩
  case round =>
    obtain ⟨q, p', xs, root, hq, rfl, rfl, ho, HG, hp', R, G⟩ := hrel
    have hB := G.out.size
    by_cases hq0 : 0 < q
    · have HO := hid ho
      clear ho
      go_wp2_with fail
      refine (spec_l20Step_c g p' w.heap.size l _ xs root _ R.out (by omega) HO.out hgl hB HG.out).mono ?_
      rintro e w3 ⟨v3, xs3, root3, ok3, p3, rfl, o3, g3, hp3, r3, gg3⟩
      have O3 := hid o3
      have HG3 := hid g3
      have R3 := hid r3
      have G3 := hid (G.out.trans gg3)
      clear o3 g3 r3 gg3 HO R G
      go_wp2
      go_roundw
      case rel => exact ⟨q - 1, p3, xs3, root3, by omega, by go_num, rfl, O3.out, HG3, by omega, R3, G3⟩
      case measure => simp [intOf]; omega
    · obtain ⟨n, hn⟩ : ∃ n, xs.length = n := ⟨_, rfl⟩
      have HN := hid hn
      have hn40 : n ≤ 40 := by rw [← hn]; exact (st_in HG.out.1.1).1
      have hnp : 0 < n := by
        rw [← hn]
        have h0 := HG.out.2
        cases xs with
        | nil => exact absurd rfl h0
        | cons x r => simp
      obtain ⟨gs, c, rfl, hgs0, hgs, hnc⟩ := own_pc_slice ho hn hnp
      have HO := hid ho
      clear ho hn
      go_wp2_with fail
      refine (spec_odd_c g p' l nn _ R.out (by omega) hn0 hn9).mono ?_
      rintro e w4 ⟨y, p4, rfl, hy0, hp4, r4, g4⟩
      have s4 := g4.size
      have O4 := hid (HO.out.far g4 (fun b hb => by simp at hb; omega))
      have R4 := hid r4
      have G4 := hid (G.out.trans g4)
      have HZ := hid hy0
      clear r4 g4 HO R G hy0
      cases y
      · go_wp2
        go_ret2
        exact ⟨_, xs, root, p4, rfl, O4.out, fun _ => HG.out, HG.out.1.drawn HG.out.2, by omega, R4.out, G4.out⟩
      · go_wp2_with fail
        refine (spec_pick_c g p4 l 3 _ R4.out (by omega)).mono ?_
        rintro e w5 ⟨z, rfl, z0, z3, _, r5, g5⟩
        have s5 := g5.size
        have R5 := hid r5
        have G5 := hid (G4.out.trans g5)
        have O5 := hid (O4.out.far g5 (fun b hb => by simp at hb; omega))
        clear r5 g5 R4 G4 O4 z3
        by_cases hz0' : z = 0
        · have hzd : (z == 0) = true := by simp [hz0']
          clear hz0' z0
          have hal5 : Below w5.heap.size w5 (w5.alloc (.cells #[] 34)) := (Below.refl _ _).alloc (Nat.le_refl _) _
          go_wp2_with (at_builtin; refine wpList_cat (enc := encP) (w0 := w5.alloc (.cells #[] 34)) rfl _ _ 23 rfl w5.heap.size w5.heap.size 34 i0 _ 2 24 Tryd.underlying23 hi0 hz0 hz1 hz2 rfl (by decide) _ _ [] xs (Own.made w5 (Nat.le_refl _)) _ ((Rd.of_own O5.out).below hal5 (Nat.le_refl _)) (Below.refl _ _) (by simp) (Nat.le_refl _) rfl rfl encP_one (by have := HN.out; simp; omega) (by decide) ?_; intro v6 w6 hown' hb' hB' hg'; rw [List.nil_append] at hown'; obtain ⟨gt, ct, rfl, hgt0, hgt, hnct⟩ := own_pc_slice hown' HN.out hnp; have HO6 := hid hown'; have HB6 := hid (hal5.trans hb'); clear hown' hb' hg' hB')
          have b6 := HB6.out
          have hown' := HO6.out
          have O6 := hid (hown'.less (by omega : w.heap.size ≤ w5.heap.size))
          have R6 := hid (R5.out.on b6)
          have G6 := hid (G5.out.trans (gb_of_below b6 (some g)))
          have s6 := b6.size
          clear hown' HO6 HB6 b6 hal5 R5 G5 O5
          refine (spec_pick_c g _ l n _ R6.out (by omega)).mono ?_
          rintro e w7 ⟨jz, rfl, j0, j1, _, r7, g7⟩
          have j1' := j1 (by omega)
          obtain ⟨j, rfl⟩ : ∃ j : Nat, jz = j := ⟨jz.toNat, by omega⟩
          have hjn : j < n := by omega
          have hjn' : (j : Int) < n := by omega
          have s7 := g7.size
          have R7 := hid r7
          have G7 := hid (G6.out.trans g7)
          have O7 := hid (O6.out.far g7 (fun b hb => by simp at hb; omega))
          clear r7 g7 R6 G6 O6 j1 j0
          go_wp2_with fail
          refine (spec_pick_c g _ l 2 _ (R7.out.alloc _) (by omega)).mono ?_
          rintro e w8 ⟨iz, rfl, i00, i1, _, r8, g8⟩
          have i1' := i1 (by omega)
          obtain ⟨i, rfl⟩ : ∃ i : Nat, iz = i := ⟨iz.toNat, by omega⟩
          have hi2 : i < 2 := by omega
          have hh := (g8.block w7.heap.size (by simp) (some_ne (by omega))).trans (heap_alloc_new w7 _)
          obtain ⟨r, r0, r9, hr⟩ := intI_cell (lo := -1) (hi := 5) (t := 3) (cs := #[.int .i64 (-1), .int .i64 5]) (by rfl) hi2
          have hc := hr _ _ hh
          have s8 := g8.size
          have O8 := hid (((O7.out.alloc (.cells #[.int .i64 (-1), .int .i64 5] 3)).far g8 (fun b hb => by simp at hb; omega)))
          have R8 := hid r8
          have G8 := hid (G7.out.trans (gb_unalloc g8))
          obtain ⟨x, hx⟩ : ∃ x, xs[j]? = some x := ⟨xs[j]'(by have := HN.out; omega), List.getElem?_eq_getElem _⟩
          obtain ⟨o9, g9, ⟨y9, k9⟩, f9⟩ := own_pc_set (i := j * 2) (u := .int .i64 r) O8.out HN.out (by omega) (setP_flat1 xs j x r hx) (by simp [HN.out])
          have O9 := hid o9
          have HD := hid (drawn_print HG.out.1 HG.out.2 hx r)
          have R9 := hid (R8.out.kept g9 (fun b hb => by simp at hb; omega))
          have G9 := hid (show w.grownBy (w8.setCell ⟨gt, j * 2, none⟩ (.int .i64 r)) (some g) from gb_out G8.out g9 (fun b hb => .inr (by simp at hb; omega)))
          clear hh hr g8 r8 i1 R7 G7 O7 o9 g9 hx i00
          go_wp2
          go_ret2
          exact ⟨_, _, root, _, rfl, O9.out, fun h => (by have := HZ.out h; cases this), HD.out, by omega, R9.out, G9.out⟩
        · have hzd : (z == 0) = false := by simp [hz0']
          clear hz0'
          by_cases hz1' : z = 1
          · have hzd1 : (z == 1) = true := by simp [hz1']
            clear hz1' z0
            go_wp2
            refine drew_out w5 ⟨0, rfl⟩ ?_
            rintro W0 ⟨z00, hW0⟩
            have hw05 : Below w5.heap.size w5 W0 := by rw [hW0]; exact bl_drewN (Below.refl _ _) z00
            have hB0 : w.heap.size ≤ W0.heap.size := by have := hw05.size; omega
            have HH : Hid (Pcs W0 W0.heap.size (.slice (some ⟨gs, 0, none⟩) n c) xs) := hid ((Rd.of_own O5.out).on hw05)
            have hgsW : gs < W0.heap.size := by have := (O5.out.lt gs rfl).2; have := hw05.size; omega
            obtain ⟨a', c', hv', _, _, h3'⟩ := HH.out.pcs HN.out
            simp only [Value.slice.injEq] at hv'
            obtain ⟨rfl, _, rfl⟩ := hv'
            obtain ⟨b0, o0, r0, t0, hbo, hbl, hx0, k0, k1⟩ := h3' 0 hnp
            simp only [Option.some.injEq, Addr.mk.injEq, and_true] at hbo
            obtain ⟨rfl, rfl⟩ := hbo
            simp only [Nat.zero_mul, Nat.zero_add] at k0 k1
            have hgs := hgsW
            have hn0' : (0 : Int) < n := by omega
            have hn0 : 0 < n := hnp
            have R5' := hid (R5.out.on hw05)
            have G5' := hid (G5.out.trans (gb_of_below hw05 (some g)))
            clear h3' R5 G5 hW0 O5
            have R5 := R5'
            have G5 := G5'
            clear R5' G5'
            refine wp_region_inv3e rfl (by kernel_rfl) (by kernel_rfl) (by kernel_rfl) (by kernel_rfl) (by simp) (fun _ w' => Below W0.heap.size W0 w') (fun j w' w'' => dsS j w' w'') (fact (dsF W0 (.slice (some ⟨gs, 0, none⟩) n c) xs gs ⟨r0, t0⟩)) dsCons (Below.refl _ _).drew ?hF ?grd ?oo ?cg ?fin
            case hF =>
              intro j i v w' w'' hS hc hne hwt hdp hf
              have hi : i < 9 ∨ 9 ≤ i := by omega
              rcases hi with hi | hi
              · obtain rfl | rfl | rfl | rfl | rfl | rfl | rfl | rfl | rfl : i = 0 ∨ i = 1 ∨ i = 2 ∨ i = 3 ∨ i = 4 ∨ i = 5 ∨ i = 6 ∨ i = 7 ∨ i = 8 := by omega
                · rcases hS with rfl | hb | ⟨rfl, b, hh, hg⟩ | rfl
                  · exact hf
                  · obtain ⟨b0, h1, h2, h3, h4⟩ := hf; exact ⟨b0, h1, h2, (hb.block b0 (Array.getElem?_eq_some_iff.1 h3).1).trans h3, h4.on hb⟩
                  · simp [dsCons] at hc
                  · have h9 := hdp _ rfl ⟨2, .data⟩ (by simp) rfl; simp [dsCons] at h9
                · exact hf
                · rcases hS with rfl | hb | ⟨rfl, b, hh, hg⟩ | rfl
                  · exact hf
                  · exact Own.on hf hb
                  · exact absurd rfl hne
                  · simp [dsCons] at hc
                · exact hf
                · exact hf
                · exact hf
                · rcases hS with rfl | hb | ⟨rfl, b, hh, hg⟩ | rfl
                  · exact hf
                  · obtain ⟨b0, h1, h2, h3⟩ := hf; exact ⟨b0, h1, h2, (hb.block b0 (Array.getElem?_eq_some_iff.1 h3).1).trans h3⟩
                  · obtain ⟨b0, h1, h2, h3⟩ := hf; exact ⟨b0, h1, h2, (hg.block b0 (Array.getElem?_eq_some_iff.1 h3).1 (some_ne' (by rintro rfl; rw [hh] at h3; simp at h3))).trans h3⟩
                  · simp [dsCons] at hc
                · rcases hS with rfl | hb | ⟨rfl, b, hh, hg⟩ | rfl
                  · exact hf
                  · exact Own.on hf hb
                  · exact own_far_emp hf hh hg (by simp <;> omega)
                  · exact absurd rfl hne
                · rcases hS with rfl | hb | ⟨rfl, b, hh, hg⟩ | rfl
                  · exact hf
                  · exact Own.on hf hb
                  · exact own_far_emp hf hh hg (by simp <;> omega)
                  · exact absurd (hwt.symm.trans (c := true) (by kernel_rfl)) (by decide)
              · unfold fact at *; rw [List.getD_eq_getElem?_getD, List.getElem?_eq_none (by simpa [dsF] using hi)]; trivial
            case grd =>
              intro i oo d bb hi hg v w' hf
              obtain ⟨hlt1, rfl⟩ := Array.getElem?_eq_some_iff.1 hi
              have hlt' : i < 9 := hlt1
              clear hi
              obtain rfl | rfl | rfl | rfl | rfl | rfl | rfl | rfl | rfl : i = 0 ∨ i = 1 ∨ i = 2 ∨ i = 3 ∨ i = 4 ∨ i = 5 ∨ i = 6 ∨ i = 7 ∨ i = 8 := by omega
              all_goals simp at hg
            case cg =>
              intro i oo d bb hi hg j
              obtain ⟨hlt1, rfl⟩ := Array.getElem?_eq_some_iff.1 hi
              have hlt' : i < 9 := hlt1
              clear hi
              obtain rfl | rfl | rfl | rfl | rfl | rfl | rfl | rfl | rfl : i = 0 ∨ i = 1 ∨ i = 2 ∨ i = 3 ∨ i = 4 ∨ i = 5 ∨ i = 6 ∨ i = 7 ∨ i = 8 := by omega
              all_goals simp at hg
            case oo =>
              intro i oo hi qn a' wk hnn hj hb' hd
              obtain ⟨hlt1, rfl⟩ := Array.getElem?_eq_some_iff.1 hi
              have hlt' : i < 9 := hlt1
              clear hi
              obtain rfl | rfl | rfl | rfl | rfl | rfl | rfl | rfl | rfl : i = 0 ∨ i = 1 ∨ i = 2 ∨ i = 3 ∨ i = 4 ∨ i = 5 ∨ i = 6 ∨ i = 7 ∨ i = 8 := by omega
              · exact iv_val (v := .slice (some ⟨wk.heap.size, 0, none⟩) 0 0) (w' := wk.alloc (.cells #[] 34)) (by simp [execOp, go_sem, Result.andThen]) ⟨_, rfl, hj.alloc hj.size _, .inr (.inl ((Below.refl _ _).alloc (Nat.le_refl _) _)), (show isEmpP _ _ _ from ⟨_, rfl, hj.size, heap_alloc_new _ _, Own.made _ hj.size⟩)⟩
              · have b6 : a'.eval (.tmp 6) = .slice (some ⟨gs, 0, none⟩) n c := hb' 6 (by kernel_rfl); have c6 := ev_get b6
                exact iv_val (v := .slice (some ⟨gs, 0, none⟩) n c) (by simp [execOp, b6]) ⟨_, rfl, hj, .inl rfl, rfl⟩
              · have e0 : isEmpP W0.heap.size (a'.eval (.tmp 63)) wk := hd ⟨0, .data⟩ (by simp) rfl (by intro j _ hc; revert hc; unfold dsCons; simp; try omega)
                obtain ⟨b0, v0, hb0, hh0, o0⟩ := e0
                have v1 : a'.eval (.tmp 64) = .slice (some ⟨gs, 0, none⟩) n c := hd ⟨1, .data⟩ (by simp) rfl (by intro j _ hc; revert hc; unfold dsCons; simp; try omega)
                obtain ⟨i0, hi0, hz0, hz1, hz2⟩ := info_parts info_pcO
                refine wp_cat (enc := encP) wk (.tmp 63) (.tmp 64) 23 rfl W0.heap.size 34 i0 _ 2 24 Tryd.underlying23 hi0 hz0 hz1 hz2 rfl (by decide) (a'.eval (.tmp 63)) (.slice (some ⟨gs, 0, none⟩) n c) [] xs rfl v1 o0 _ (HH.out.below hj (Nat.le_refl _)) encP_one (by have := HN.out; simp <;> omega) (by decide) hj.size ?_
                intro v' w' ho hg hg'
                rw [v0] at hg
                exact ⟨_, rfl, hj.grown hg hj.size (fun g hg1 => by simp [Value.ownBlock] at hg1; omega), .inr (.inr (.inl ⟨rfl, b0, hh0, hg⟩)), (show isOwnP _ _ _ _ from ho)⟩
              · have b6 : a'.eval (.tmp 6) = .slice (some ⟨gs, 0, none⟩) n c := hb' 6 (by kernel_rfl); have c6 := ev_get b6
                exact iv_val (v := .slice (some ⟨gs, 0, none⟩) n c) (by simp [execOp, b6]) ⟨_, rfl, hj, .inl rfl, rfl⟩
              · have v3 : a'.eval (.tmp 66) = .slice (some ⟨gs, 0, none⟩) n c := hd ⟨3, .data⟩ (by simp) rfl (by intro j _ hc; revert hc; unfold dsCons; simp; try omega); have u3 := ev_get v3
                exact iv_val (v := .pointer (some ⟨gs, 0, none⟩)) (by simp [execOp, u3, hn0, go_sem, Result.andThen]) ⟨_, rfl, hj, .inl rfl, rfl⟩
              · have v4 : a'.eval (.tmp 67) = .pointer (some ⟨gs, 0, none⟩) := hd ⟨4, .data⟩ (by simp) rfl (by intro j _ hc; revert hc; unfold dsCons; simp; try omega); have u4 := ev_get v4
                have x0 := (hj.cell (p := ⟨gs, 0, none⟩) hgs).trans k0
                have x1 := (hj.cell (p := ⟨gs, 1, none⟩) hgs).trans k1
                exact iv_val (v := .agg #[.int .i64 r0, .string t0]) (by simp [execOp, u4, x0, x1, go_sem, Result.andThen]) ⟨_, rfl, hj, .inl rfl, rfl⟩
              · have v5 : a'.eval (.tmp 68) = .agg #[.int .i64 r0, .string t0] := hd ⟨5, .data⟩ (by simp) rfl (by intro j _ hc; revert hc; unfold dsCons; simp; try omega); have u5 := ev_get v5
                exact iv_val (v := .slice (some ⟨wk.heap.size, 0, none⟩) 1 1) (w' := wk.alloc (.cells #[.int .i64 r0, .string t0] 34)) (by simp [execOp, u5, go_sem, Result.andThen]) ⟨_, rfl, hj.alloc hj.size _, .inr (.inl ((Below.refl _ _).alloc (Nat.le_refl _) _)), (show isLitP _ _ _ _ _ from ⟨_, rfl, hj.size, heap_alloc_new _ _⟩)⟩
              · have e4 : isOwnP W0.heap.size ([] ++ xs) (a'.eval (.tmp 65)) wk := hd ⟨2, .data⟩ (by simp) rfl (by intro j _ hc; revert hc; unfold dsCons; simp; try omega)
                have e8 : isLitP W0.heap.size r0 t0 (a'.eval (.tmp 69)) wk := hd ⟨6, .data⟩ (by simp) rfl (by intro j _ hc; revert hc; unfold dsCons; simp; try omega)
                obtain ⟨b8, v8, hb8, hh8⟩ := e8
                obtain ⟨i0, hi0, hz0, hz1, hz2⟩ := info_parts info_pcO
                refine wp_cat (enc := encP) wk (.tmp 65) (.tmp 69) 23 rfl W0.heap.size 34 i0 _ 2 24 Tryd.underlying23 hi0 hz0 hz1 hz2 rfl (by decide) (a'.eval (.tmp 65)) (.slice (some ⟨b8, 0, none⟩) 1 1) ([] ++ xs) [(⟨r0, t0⟩ : Pc)] rfl v8 e4 _ (lit_rdP hh8) encP_one (by have := HN.out; simp <;> omega) (by decide) hj.size ?_
                intro v' w' ho hg hg'
                exact ⟨_, rfl, hj.grown hg hj.size (fun g hg1 => (Own.lt e4 g hg1).1), .inr (.inr (.inr rfl)), (show isOwnP _ _ _ _ from ho)⟩
              · have e13 : isOwnP W0.heap.size ([] ++ xs ++ [(⟨r0, t0⟩ : Pc)]) (a'.eval (.tmp 70)) wk := hd ⟨7, .data⟩ (by simp) rfl (by intro j _ hc; revert hc; unfold dsCons; simp; try omega)
                exact iv_val (v := a'.eval (.tmp 70)) (by simp [execOp]) ⟨_, rfl, hj, .inl rfl, e13⟩
            case fin =>
              intro tm w9 hj hF
              have o15 : OwnP w9 W0.heap.size (tm.getD 6 undef) ([] ++ xs ++ [(⟨r0, t0⟩ : Pc)]) := hF 8 _ rfl (fun j => by unfold dsCons; simp)
              rw [List.nil_append] at o15
              clear hF
              simp only [refillL, List.setIfInBounds_toArray, List.set_cons_succ, List.set_cons_zero]
              obtain ⟨sv, hsv⟩ : ∃ sv, tm.getD 6 undef = sv := ⟨_, rfl⟩
              rw [hsv] at o15 ⊢
              clear hsv
              have O15 := hid o15
              have R15 := hid (R5.out.on hj)
              have G15 := hid (G5.out.trans (gb_of_below hj (some g)))
              clear o15 hj
              go_wp2
              go_ret2
              exact ⟨sv, _, root, _, rfl, O15.out.less hB0, fun h => (by have := HZ.out h; cases this), drawn_twice HG.out.1 hx0.out, by omega, R15.out, G15.out⟩
          · have hzd1 : (z == 1) = false := by simp [hz1']
            clear hz1'
            have hal5 : Below w5.heap.size w5 (w5.alloc (.cells #[] 34)) := (Below.refl _ _).alloc (Nat.le_refl _) _
            go_upto_region 9 with (at_builtin; refine wpList_cat (enc := encP) (w0 := w5.alloc (.cells #[] 34)) rfl _ _ 23 rfl w5.heap.size w5.heap.size 34 i0 _ 2 24 Tryd.underlying23 hi0 hz0 hz1 hz2 rfl (by decide) _ _ [] xs (Own.made w5 (Nat.le_refl _)) _ ((Rd.of_own O5.out).below hal5 (Nat.le_refl _)) (Below.refl _ _) (by simp) (Nat.le_refl _) rfl rfl encP_one (by have := HN.out; simp; omega) (by decide) ?_; intro v6 w6 hown' hb' hB' hg'; rw [List.nil_append] at hown'; obtain ⟨gt, ct, rfl, hgt0, hgt, hnct⟩ := own_pc_slice hown' HN.out hnp; have HO6 := hid hown'; have HB6 := hid (hal5.trans hb'); clear hown' hb' hg' hB')
            have b6 := HB6.out
            have hown' := HO6.out
            have O6 := hid (hown'.less (by omega : w.heap.size ≤ w5.heap.size))
            have R6 := hid (R5.out.on b6)
            have G6 := hid (G5.out.trans (gb_of_below b6 (some g)))
            have s6 := b6.size
            obtain ⟨j, rfl⟩ : ∃ j : Nat, n = j + 1 := ⟨n - 1, by omega⟩
            have hw1 : IntKind.i64.wrap (((j + 1 : Nat) : Int) - 1) = (j : Int) := by rw [show ((j + 1 : Nat) : Int) - 1 = (j : Int) by omega]; exact IntWalk.i64_in _ (by omega)
            have hw2 : ((j + 1 : Nat) : Int) - 1 = (j : Int) := by omega
            have hjn' : (j : Int) < ((j + 1 : Nat) : Int) := by omega
            obtain ⟨x, hx⟩ : ∃ x, xs[j]? = some x := ⟨xs[j]'(by have := HN.out; omega), List.getElem?_eq_getElem _⟩
            obtain ⟨o9, g9, ⟨y9, k9⟩, f9⟩ := own_pc_set (i := j * 2 + 1) (u := .string TURNED) O6.out HN.out (by omega) (setP_flat2 xs j x TURNED hx) (by simp [HN.out])
            have O9 := hid o9
            have HD := hid (drawn_text HG.out.1 HG.out.2 hx)
            have R9 := hid (R6.out.kept g9 (fun b hb => by simp at hb; omega))
            have G9 := hid (show w.grownBy (w6.setCell ⟨gt, j * 2 + 1, none⟩ (.string TURNED)) (some g) from gb_out G6.out g9 (fun b hb => .inr (by simp at hb; omega)))
            clear hown' HO6 HB6 b6 hal5 R5 G5 O5 o9 g9 hx
            go_wp2
            go_ret2
            exact ⟨_, _, root, _, rfl, O9.out, fun h => (by have := HZ.out h; cases this), HD.out, by omega, R9.out, G9.out⟩

end Go.Proofs.YtfdhaigmekmboaaDoor

/- Walks: drawn stores in which pieces may be missing. -/
namespace Go.Proofs.YtfdhaigmekmboaaDoor
open Go.RowKit

def dhCons (j i : Nat) : Bool := (j == 4 && i == 0) || (j == 9 && i == 4)
def dhS (j : Nat) (w w' : World) : Prop := w = w' ∨ Below w.heap.size w w' ∨ (j = 4 ∧ ∃ b, w.heap[b]? = some (.cells #[] 34 (0, 0)) ∧ w.grownBy w' (Value.ownBlock (.slice (some ⟨b, 0, none⟩) 0 0))) ∨ j = 9
/-- A drawn store. -/
def HolesB (w : World) (e : Ending) (w' : World) : Prop := ∃ (v : Value) (xs : List Pc), e = .returned v ∧ OwnP w' w.heap.size v xs ∧ DrawnH xs ∧ Below w.heap.size w w'

set_option maxHeartbeats 2000000 in
set_option maxRecDepth 100000 in
theorem spec_l20Holes_c (v : Value) (l : List Int) (w : World) (h : Rd encU 1 w w.heap.size v l) (hl : ∀ x ∈ l, 0 ≤ x ∧ x ≤ 255) :
    Calls Tryd.prog 27 #[v] w (HolesB w) := by
  go_enter Tryd.func27, Tryd.ntmps27
  go_wp2_with fail
  refine (spec_l20Open_c v l w h hl).mono ?_
  rintro e w1 ⟨l', rfl, r1, b1⟩
  clear h hl
  have hgl := r1.lt
  have HB1 := hid b1
  go_wp2_with fail
  refine (spec_l20Store_c _ 0 l' 9 _ r1 (by omega) (by omega) (by omega)).mono ?_
  rintro e w2 ⟨v2, xs, root, p2, rfl, o2, _, hd, hp2, r2, g2⟩
  obtain ⟨n, hn⟩ : ∃ n, xs.length = n := ⟨_, rfl⟩
  have HN := hid hn
  have hnp : 0 < n := by
    rw [← hn]
    have h0 := hd.1
    cases xs with
    | nil => exact absurd rfl h0
    | cons x r => simp
  have hn41 : n ≤ 41 := by rw [← hn]; exact hd.2.1
  obtain ⟨gs, c, rfl, hgs0, hgs, hnc⟩ := own_pc_slice o2 hn hnp
  have O2 := hid o2
  have HD := hid hd
  have R2 := hid r2
  have D2 := hid (b1.grown g2 b1.size (by simp))
  have s1 := b1.size
  have s2 := g2.size
  clear o2 hd r2 g2 r1 hn b1
  go_wp2_with fail
  refine (spec_pick_c _ p2 l' 2 _ R2.out (by omega)).mono ?_
  rintro e w3 ⟨x, rfl, x0, x3, _, r3, g3⟩
  have R3 := hid r3
  have D3 := hid (D2.out.grown g3 D2.out.size (by simp))
  have O3 := hid (O2.out.far g3 (fun b hb => by simp at hb; omega))
  have s3 := g3.size
  clear r3 g3 R2 D2 O2 x3
  by_cases hx0 : x = 0
  · have hxd : (x == 0) = true := by simp [hx0]
    clear hx0 x0
    go_wp2_with fail
    refine (spec_pick_c _ _ l' n _ R3.out (by omega)).mono ?_
    rintro e w4 ⟨y, rfl, y0, y3, _, r4, g4⟩
    have y3' := y3 (by omega)
    obtain ⟨k, rfl⟩ : ∃ k : Nat, y = k := ⟨y.toNat, by omega⟩
    have hkn : k < n := by omega
    have D4 := hid (D3.out.grown g4 D3.out.size (by simp))
    have O4 := hid (O3.out.far g4 (fun b hb => by simp at hb; omega))
    have s4 := g4.size
    clear r4 g4 R3 D3 O3 y3
    go_wp2
    refine drew_out w4 ⟨0, rfl⟩ ?_
    rintro W0 ⟨z00, hW0⟩
    have hw0 : Below w4.heap.size w4 W0 := by rw [hW0]; exact bl_drewN (Below.refl _ _) z00
    have HB0 := hid (bl_then D4.out hw0)
    have HH := hid ((Rd.of_own O4.out).on hw0)
    have hfr := HH.out.frontP HN.out (q := k) (by omega)
    have hbk := HH.out.backP HN.out (q := k + 1) (by omega)
    have hqc : (k : Int) ≤ c := by omega
    have hw1 : IntKind.i64.wrap ((k : Int) + 1) = (k : Int) + 1 := IntWalk.i64_in _ (by omega)
    have hk1 : ((k : Int) + 1).toNat = k + 1 := by omega
    have hq1 : (k : Int) + 1 ≤ n := by omega
    have hk0 : (0 : Int) ≤ (k : Int) + 1 := by omega
    clear hW0 hw0 D4 O4
    refine wp_region_inv3e rfl (by kernel_rfl) (by kernel_rfl) (by kernel_rfl) (by kernel_rfl) (by simp) (fun _ w' => Below W0.heap.size W0 w') (fun j w' w'' => dhS j w' w'') (fact [isEmpP W0.heap.size, isV (.slice (some ⟨gs, 0, none⟩) n c), isV (.int .i64 k), isRdP W0 (xs.take k), isOwnP W0.heap.size ([] ++ xs.take k), isV (.slice (some ⟨gs, 0, none⟩) n c), isV (.int .i64 k), isV (.int .i64 ((k : Int) + 1)), isRdP W0 (xs.drop (k + 1)), isOwnP W0.heap.size ([] ++ xs.take k ++ xs.drop (k + 1)), isOwnP W0.heap.size ([] ++ xs.take k ++ xs.drop (k + 1))]) dhCons (Below.refl _ _).drew ?hF ?grd ?oo ?cg ?fin
    case hF =>
      intro j i v w' w'' hS hc hne hwt hdp hf
      have hi : i < 11 ∨ 11 ≤ i := by omega
      rcases hi with hi | hi
      · obtain rfl | rfl | rfl | rfl | rfl | rfl | rfl | rfl | rfl | rfl | rfl : i = 0 ∨ i = 1 ∨ i = 2 ∨ i = 3 ∨ i = 4 ∨ i = 5 ∨ i = 6 ∨ i = 7 ∨ i = 8 ∨ i = 9 ∨ i = 10 := by omega
        · rcases hS with rfl | hb | ⟨rfl, b, hh, hg⟩ | rfl
          · exact hf
          · obtain ⟨b0, h1, h2, h3, h4⟩ := hf; exact ⟨b0, h1, h2, (hb.block b0 (Array.getElem?_eq_some_iff.1 h3).1).trans h3, h4.on hb⟩
          · simp [dhCons] at hc
          · have h9 := hdp _ rfl ⟨4, .data⟩ (by simp) rfl; simp [dhCons] at h9
        · exact hf
        · exact hf
        · exact hf
        · rcases hS with rfl | hb | ⟨rfl, b, hh, hg⟩ | rfl
          · exact hf
          · exact Own.on hf hb
          · exact absurd rfl hne
          · simp [dhCons] at hc
        · exact hf
        · exact hf
        · exact hf
        · exact hf
        · rcases hS with rfl | hb | ⟨rfl, b, hh, hg⟩ | rfl
          · exact hf
          · exact Own.on hf hb
          · exact absurd (hwt.symm.trans (c := true) (by kernel_rfl)) (by decide)
          · exact absurd rfl hne
        · rcases hS with rfl | hb | ⟨rfl, b, hh, hg⟩ | rfl
          · exact hf
          · exact Own.on hf hb
          · exact absurd (hwt.symm.trans (c := true) (by kernel_rfl)) (by decide)
          · exact absurd (hwt.symm.trans (c := true) (by kernel_rfl)) (by decide)
      · unfold fact at *; rw [List.getD_eq_getElem?_getD, List.getElem?_eq_none (by simpa using hi)]; trivial
    case grd =>
      intro i oo d bb hi hg v w' hf
      obtain ⟨hlt1, rfl⟩ := Array.getElem?_eq_some_iff.1 hi
      have hlt' : i < 11 := hlt1
      clear hi
      obtain rfl | rfl | rfl | rfl | rfl | rfl | rfl | rfl | rfl | rfl | rfl : i = 0 ∨ i = 1 ∨ i = 2 ∨ i = 3 ∨ i = 4 ∨ i = 5 ∨ i = 6 ∨ i = 7 ∨ i = 8 ∨ i = 9 ∨ i = 10 := by omega
      all_goals simp at hg
    case cg =>
      intro i oo d bb hi hg j
      obtain ⟨hlt1, rfl⟩ := Array.getElem?_eq_some_iff.1 hi
      have hlt' : i < 11 := hlt1
      clear hi
      obtain rfl | rfl | rfl | rfl | rfl | rfl | rfl | rfl | rfl | rfl | rfl : i = 0 ∨ i = 1 ∨ i = 2 ∨ i = 3 ∨ i = 4 ∨ i = 5 ∨ i = 6 ∨ i = 7 ∨ i = 8 ∨ i = 9 ∨ i = 10 := by omega
      all_goals simp at hg
    case oo =>
      intro i oo hi qn a' wk hnn hj hb' hd
      obtain ⟨hlt1, rfl⟩ := Array.getElem?_eq_some_iff.1 hi
      have hlt' : i < 11 := hlt1
      clear hi
      obtain rfl | rfl | rfl | rfl | rfl | rfl | rfl | rfl | rfl | rfl | rfl : i = 0 ∨ i = 1 ∨ i = 2 ∨ i = 3 ∨ i = 4 ∨ i = 5 ∨ i = 6 ∨ i = 7 ∨ i = 8 ∨ i = 9 ∨ i = 10 := by omega
      · exact iv_val (v := .slice (some ⟨wk.heap.size, 0, none⟩) 0 0) (w' := wk.alloc (.cells #[] 34)) (by simp [execOp, go_sem, Result.andThen]) ⟨_, rfl, hj.alloc hj.size _, .inr (.inl ((Below.refl _ _).alloc (Nat.le_refl _) _)), (show isEmpP _ _ _ from ⟨_, rfl, hj.size, heap_alloc_new _ _, Own.made _ hj.size⟩)⟩
      · have b4 : a'.eval (.tmp 4) = .slice (some ⟨gs, 0, none⟩) n c := hb' 4 (by kernel_rfl); have c4 := ev_get b4
        exact iv_val (v := .slice (some ⟨gs, 0, none⟩) n c) (by simp [execOp, b4]) ⟨_, rfl, hj, .inl rfl, rfl⟩
      · have b6 : a'.eval (.tmp 6) = .int .i64 k := hb' 6 (by kernel_rfl); have c6 := ev_get b6
        exact iv_val (v := .int .i64 k) (by simp [execOp, b6]) ⟨_, rfl, hj, .inl rfl, rfl⟩
      · have v1 : a'.eval (.tmp 22) = .slice (some ⟨gs, 0, none⟩) n c := hd ⟨1, .data⟩ (by simp) rfl (by intro j _ hc; revert hc; unfold dhCons; simp; try omega); have u1 := ev_get v1
        have v2 : a'.eval (.tmp 23) = .int .i64 k := hd ⟨2, .data⟩ (by simp) rfl (by intro j _ hc; revert hc; unfold dhCons; simp; try omega); have u2 := ev_get v2
        exact iv_val (v := .slice (some ⟨gs, 0, none⟩) k c) (by simp [execOp, u1, u2, hqc, go_sem, Result.andThen]) ⟨_, rfl, hj, .inl rfl, (show isRdP W0 (xs.take k) _ wk from hfr)⟩
      · have e0 : isEmpP W0.heap.size (a'.eval (.tmp 21)) wk := hd ⟨0, .data⟩ (by simp) rfl (by intro j _ hc; revert hc; unfold dhCons; simp; try omega)
        obtain ⟨b0, v0, hb0, hh0, o0⟩ := e0
        have e3 : isRdP W0 (xs.take k) (a'.eval (.tmp 24)) wk := hd ⟨3, .data⟩ (by simp) rfl (by intro j _ hc; revert hc; unfold dhCons; simp; try omega)
        obtain ⟨i0, hi0, hz0, hz1, hz2⟩ := info_parts info_pcO
        refine wp_cat (enc := encP) wk (.tmp 21) (.tmp 24) 23 rfl W0.heap.size 34 i0 _ 2 24 Tryd.underlying23 hi0 hz0 hz1 hz2 rfl (by decide) (a'.eval (.tmp 21)) (a'.eval (.tmp 24)) [] (xs.take k) rfl rfl o0 _ (Rd.below e3 hj (Nat.le_refl _)) encP_one (by have := HN.out; simp <;> omega) (by decide) hj.size ?_
        intro v' w' ho hg hg'
        rw [v0] at hg
        exact ⟨_, rfl, hj.grown hg hj.size (fun g hg1 => by simp [Value.ownBlock] at hg1; omega), .inr (.inr (.inl ⟨rfl, b0, hh0, hg⟩)), (show isOwnP _ _ _ _ from ho)⟩
      · have b4 : a'.eval (.tmp 4) = .slice (some ⟨gs, 0, none⟩) n c := hb' 4 (by kernel_rfl); have c4 := ev_get b4
        exact iv_val (v := .slice (some ⟨gs, 0, none⟩) n c) (by simp [execOp, b4]) ⟨_, rfl, hj, .inl rfl, rfl⟩
      · have b6 : a'.eval (.tmp 6) = .int .i64 k := hb' 6 (by kernel_rfl); have c6 := ev_get b6
        exact iv_val (v := .int .i64 k) (by simp [execOp, b6]) ⟨_, rfl, hj, .inl rfl, rfl⟩
      · have v6 : a'.eval (.tmp 27) = .int .i64 k := hd ⟨6, .data⟩ (by simp) rfl (by intro j _ hc; revert hc; unfold dhCons; simp; try omega); have u6 := ev_get v6
        exact iv_val (v := .int .i64 ((k : Int) + 1)) (by simp [execOp, u6, hw1, go_sem]) ⟨_, rfl, hj, .inl rfl, rfl⟩
      · have v5 : a'.eval (.tmp 26) = .slice (some ⟨gs, 0, none⟩) n c := hd ⟨5, .data⟩ (by simp) rfl (by intro j _ hc; revert hc; unfold dhCons; simp; try omega); have u5 := ev_get v5
        have v7 : a'.eval (.tmp 28) = .int .i64 ((k : Int) + 1) := hd ⟨7, .data⟩ (by simp) rfl (by intro j _ hc; revert hc; unfold dhCons; simp; try omega); have u7 := ev_get v7
        refine iv_val (v := .slice (if c = k + 1 then some ⟨gs, 0, none⟩ else (some ⟨gs, 0, none⟩ : Option Addr).map (fun (x : Addr) => x.add ((k + 1) * 2))) (n - (k + 1)) (c - (k + 1))) ?_ ⟨_, rfl, hj, .inl rfl, (show isRdP W0 (xs.drop (k + 1)) _ wk from hbk)⟩
        simp [execOp, u5, u7, hk0, hk1, hq1, go_sem, Result.andThen]
      · have e4 : isOwnP W0.heap.size ([] ++ xs.take k) (a'.eval (.tmp 25)) wk := hd ⟨4, .data⟩ (by simp) rfl (by intro j _ hc; revert hc; unfold dhCons; simp; try omega)
        have e8 : isRdP W0 (xs.drop (k + 1)) (a'.eval (.tmp 29)) wk := hd ⟨8, .data⟩ (by simp) rfl (by intro j _ hc; revert hc; unfold dhCons; simp; try omega)
        obtain ⟨i0, hi0, hz0, hz1, hz2⟩ := info_parts info_pcO
        refine wp_cat (enc := encP) wk (.tmp 25) (.tmp 29) 23 rfl W0.heap.size 34 i0 _ 2 24 Tryd.underlying23 hi0 hz0 hz1 hz2 rfl (by decide) (a'.eval (.tmp 25)) (a'.eval (.tmp 29)) ([] ++ xs.take k) (xs.drop (k + 1)) rfl rfl e4 _ (Rd.below e8 hj (Nat.le_refl _)) encP_one (by have := HN.out; simp <;> omega) (by decide) hj.size ?_
        intro v' w' ho hg hg'
        exact ⟨_, rfl, hj.grown hg hj.size (fun g hg1 => (Own.lt e4 g hg1).1), .inr (.inr (.inr rfl)), (show isOwnP _ _ _ _ from ho)⟩
      · have e13 : isOwnP W0.heap.size ([] ++ xs.take k ++ xs.drop (k + 1)) (a'.eval (.tmp 30)) wk := hd ⟨9, .data⟩ (by simp) rfl (by intro j _ hc; revert hc; unfold dhCons; simp; try omega)
        exact iv_val (v := a'.eval (.tmp 30)) (by simp [execOp]) ⟨_, rfl, hj, .inl rfl, e13⟩
    case fin =>
      intro tm w9 hj hF
      have o15 : OwnP w9 W0.heap.size (tm.getD 2 undef) ([] ++ xs.take k ++ xs.drop (k + 1)) := hF 10 _ rfl (fun j => by unfold dhCons; simp)
      rw [List.nil_append] at o15
      clear hF
      simp only [refillL, List.setIfInBounds_toArray, List.set_cons_succ, List.set_cons_zero]
      obtain ⟨sv, hsv⟩ : ∃ sv, tm.getD 2 undef = sv := ⟨_, rfl⟩
      rw [hsv] at o15 ⊢
      clear hsv
      have O15 := hid o15
      have D15 := hid (bl_then HB0.out hj)
      clear o15 hj
      go_wp2
      go_ret
      exact ⟨sv, _, rfl, O15.out.less HB0.out.size, drawn_sub HD.out.2 (by have := HN.out; simp; omega) (fun x hx => (List.mem_append.1 hx).elim List.mem_of_mem_take List.mem_of_mem_drop), D15.out⟩
  · have hxd : (x == 0) = false := by simp [hx0]
    clear hx0 x0
    go_wp2
    go_ret
    exact ⟨_, xs, rfl, O3.out.less (by omega), HD.out.2, D3.out⟩

set_option maxHeartbeats 2000000 in
set_option maxRecDepth 100000 in
theorem spec_DrawNameCounts_c (v : Value) (l : List Int) (w : World) (h : Rd encU 1 w w.heap.size v l) (hl : ∀ x ∈ l, 0 ≤ x ∧ x ≤ 255) :
    Calls Tryd.prog 7 #[v] w (HolesB w) := by
  go_enter Tryd.func7, Tryd.ntmps7
  go_wp2_with fail
  refine (spec_l20Holes_c v l w h hl).mono ?_
  rintro e w1 ⟨u, xs, rfl, o, hd, b⟩
  go_wp2
  go_ret
  exact ⟨_, xs, rfl, o, hd, b⟩

set_option maxHeartbeats 2000000 in
set_option maxRecDepth 100000 in
theorem spec_DrawMissingPrints_c (v : Value) (l : List Int) (w : World) (h : Rd encU 1 w w.heap.size v l) (hl : ∀ x ∈ l, 0 ≤ x ∧ x ≤ 255) :
    Calls Tryd.prog 16 #[v] w (HolesB w) := by
  go_enter Tryd.func16, Tryd.ntmps16
  go_wp2_with fail
  refine (spec_l20Holes_c v l w h hl).mono ?_
  rintro e w1 ⟨u, xs, rfl, o, hd, b⟩
  go_wp2
  go_ret
  exact ⟨_, xs, rfl, o, hd, b⟩

set_option maxHeartbeats 2000000 in
set_option maxRecDepth 100000 in
theorem spec_DrawTopPrints_c (v : Value) (l : List Int) (w : World) (h : Rd encU 1 w w.heap.size v l) (hl : ∀ x ∈ l, 0 ≤ x ∧ x ≤ 255) :
    Calls Tryd.prog 20 #[v] w (HolesB w) := by
  go_enter Tryd.func20, Tryd.ntmps20
  go_wp2_with fail
  refine (spec_l20Holes_c v l w h hl).mono ?_
  rintro e w1 ⟨u, xs, rfl, o, hd, b⟩
  go_wp2
  go_ret
  exact ⟨_, xs, rfl, o, hd, b⟩

end Go.Proofs.YtfdhaigmekmboaaDoor

/- Walks: drawn prints. -/
namespace Go.Proofs.YtfdhaigmekmboaaDoor
open Go.RowKit

theorem ofRow {w : World} {b : Nat} {cs : Array Value} {t : TypeId} (h : w.heap[b]? = some (.cells cs t (0, 0))) (j : Nat) {v : Value} (hv : cs[j]? = some v) : w.cell? ⟨b, j, none⟩ = some v := by simp [World.cell?, h, hv]
theorem first_heap2 (w : World) (o o' : Obj) : ((w.alloc o).alloc o').heap[w.heap.size]? = some o :=
  (Below.heap_alloc (w.alloc o) o' _ (by simp)).trans (heap_alloc_new w o)

/-- A number; the reader has been asked at most k times more. -/
def Numbered (k : Nat) (w : World) (g : Nat) (l : List Int) (p : Nat) (e : Ending) (w' : World) : Prop :=
  ∃ (x : Int) (p' : Nat), e = .returned (.int .i64 x) ∧ p' ≤ p + k ∧ Reader w' g l p' ∧ w.grownBy w' (some g)

set_option maxHeartbeats 2000000 in
set_option maxRecDepth 100000 in
theorem spec_l20Print_c (g p : Nat) (l : List Int) (n : Int) (w : World) (h : Reader w g l p) (hp : p ≤ 109951162777) (hn0 : 0 ≤ n) (hn9 : n ≤ 1000000) :
    Calls Tryd.prog 64 #[.pointer (some ⟨g, 0, none⟩), .int .i64 n] w (Numbered 4 w g l p) := by
  go_enter Tryd.func64, Tryd.ntmps64
  go_wp2_with fail
  refine (spec_odd_c g p l n _ h (by omega) hn0 hn9).mono ?_
  rintro e w1 ⟨x, p1, rfl, _, hp1, r1, g1⟩
  have hgl : g < w1.heap.size := r1.lt
  have R := hid r1
  have G1 := hid g1
  clear r1 h g1
  cases x
  · go_wp2_with fail
    refine (spec_pick_c g p1 l 100 _ R.out (by omega)).mono ?_
    rintro e w2 ⟨x2, rfl, x20, x23, _, r2, g2⟩
    have x23' := x23 (by omega)
    go_wp2_with fail
    refine (spec_pick_c g _ l 256 _ r2 (by omega)).mono ?_
    rintro e w3 ⟨x3, rfl, x30, x33, _, r3, g3⟩
    have x33' := x33 (by omega)
    have R3 := hid r3
    have G3 := hid ((G1.out.trans g2).trans g3)
    have hg3 : g < w3.heap.size := r3.lt
    clear r2 r3 g2 g3 x23 x33
    have hoA : OwnI (w3.alloc (.cells #[.int .i64 x2, .int .i64 (x3 * 65000), .int .i64 16777212] 3)) w3.heap.size (.slice (some ⟨w3.heap.size, 0, none⟩) 3 3) [x2, x3 * 65000, 16777212] := Own.lit w3 (Nat.le_refl _) _ _ 3 rfl rfl rfl (by simp [maxLen])
    have r3' := (R3.out.alloc (.cells #[.int .i64 x2, .int .i64 (x3 * 65000), .int .i64 16777212] 3)).alloc (.cells #[.int .i64 0, .int .i64 0, .int .i64 0, .int .i64 1, .int .i64 1, .int .i64 1, .int .i64 2] 3)
    have hA0 := first_heap2 w3 (.cells #[.int .i64 x2, .int .i64 (x3 * 65000), .int .i64 16777212] 3) (.cells #[.int .i64 0, .int .i64 0, .int .i64 0, .int .i64 1, .int .i64 1, .int .i64 1, .int .i64 2] 3)
    have hB0 := second_heap w3 (.cells #[.int .i64 x2, .int .i64 (x3 * 65000), .int .i64 16777212] 3) (.cells #[.int .i64 0, .int .i64 0, .int .i64 0, .int .i64 1, .int .i64 1, .int .i64 1, .int .i64 2] 3)
    go_wp2_with fail
    refine (spec_pick_c g _ l 7 _ r3' (by omega)).mono ?_
    rintro e w4 ⟨x4, rfl, h40, h47, _, r4, g4⟩
    have hj := h47 (by omega)
    have hA := (g4.block w3.heap.size (by simp; omega) (some_ne (by omega))).trans hA0
    have hB := (g4.block (w3.heap.size + 1) (by simp) (some_ne (by omega))).trans hB0
    have R4 := hid r4
    have G4 := hid (G3.out.trans (gb_unalloc (gb_unalloc g4)))
    clear r4 g4 h47 r3' hA0 hB0 hoA
    obtain rfl | rfl | rfl | rfl | rfl | rfl | rfl : x4 = 0 ∨ x4 = 1 ∨ x4 = 2 ∨ x4 = 3 ∨ x4 = 4 ∨ x4 = 5 ∨ x4 = 6 := by omega
    all_goals
      have k0 := ofRow hA 0 rfl
      have k1 := ofRow hA 1 rfl
      have k2 := ofRow hA 2 rfl
      have j0 := ofRow hB 0 rfl
      have j1 := ofRow hB 1 rfl
      have j2 := ofRow hB 2 rfl
      have j3 := ofRow hB 3 rfl
      have j4 := ofRow hB 4 rfl
      have j5 := ofRow hB 5 rfl
      have j6 := ofRow hB 6 rfl
      go_wp2
      go_ret
      exact ⟨_, _, rfl, by omega, R4.out, G4.out⟩
  · go_wp2_with fail
    refine (spec_pick_c g p1 l 2 _ (R.out.alloc _) (by omega)).mono ?_
    rintro e w2 ⟨x, rfl, x0, x3, _, r2, g2⟩
    have hh := (g2.block w1.heap.size (by simp) (some_ne (by omega))).trans (heap_alloc_new w1 _)
    have x3' := x3 (by omega)
    have R2 := hid r2
    have G2 := hid (G1.out.trans (gb_unalloc g2))
    have k0 := ofRow hh 0 rfl
    have k1 := ofRow hh 1 rfl
    clear r2 g2 x3
    obtain rfl | rfl : x = 0 ∨ x = 1 := by omega
    all_goals
      go_wp2
      go_ret
      exact ⟨_, _, rfl, by omega, R2.out, G2.out⟩

end Go.Proofs.YtfdhaigmekmboaaDoor
