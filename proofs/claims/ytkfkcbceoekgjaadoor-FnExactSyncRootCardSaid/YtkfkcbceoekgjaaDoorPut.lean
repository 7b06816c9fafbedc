/- Walks: copies of rows of pieces; a text that is put. -/
import Derived.Test.YtkfkcbceoekgjaaDoorPcO
import Derived.Test.YtkfkcbceoekgjaaDoorPutP
import Derived.Test.YtkfkcbceoekgjaaDoorFind
namespace Go.Proofs.YtkfkcbceoekgjaaDoor
open Go.RowKit

theorem str_ne {u t : ByteArray} (h : u ≠ t) : (u.toList == t.toList) = false := by
  rw [beq_eq_false_iff_ne]
  intro e
  rw [ByteArray.toList_eq, ByteArray.toList_eq] at e
  exact h (Go.WideShapes.bytes_inj e)

set_option maxHeartbeats 400000 in
theorem cloneP_c (v : Value) (xs : List Pc) (w : World) (h : Pcs w w.heap.size v xs) (hl : xs.length ≤ 1000000) :
    Calls Tryd.prog 57 #[v] w fun e w' => ∃ v', e = .returned v' ∧ OwnP w' w.heap.size v' xs ∧ Below w.heap.size w w' := by
  obtain ⟨n, hn⟩ : ∃ n, xs.length = n := ⟨_, rfl⟩
  obtain ⟨a, c, rfl, _, _, h3⟩ := h.pcs hn
  have h0 := h
  obtain ⟨i0, hi0, hz0, hz1, hz2⟩ := info_parts info_pcO
  have qn : ∀ (w : World) (a : Option Addr) (n c n' c' : Nat), (binOp .eql 26 (.slice a n c) (.slice none n' c')).run Tryd.prog w = .ok (.bool a.isNone) w := fun w a n c n' c' => Lib.run_eql_slice_nil w _ _ a n c n' c' Tryd.underlying26
  cases a with
  | none =>
    have hn0 : n = 0 := by
      rcases Nat.eq_zero_or_pos n with h | h
      · exact h
      · obtain ⟨b, o, r, t, hb, _⟩ := h3 0 h; cases hb
    have hx : xs = [] := List.eq_nil_of_length_eq_zero (by omega)
    have HX := hid hx
    clear hx hn h3 h0 hl
    go_enter Tryd.func57, Tryd.ntmps57
    go_wp2_with (simp only [qn])
    go_ret
    exact ⟨_, rfl, by rw [HX.out]; exact Own.nil_, Below.refl _ _⟩
  | some ad =>
    have HN := hid hn
    have HL := hid hl
    have hal : Below w.heap.size w (w.alloc (.cells #[] 43)) := (Below.refl _ _).alloc (Nat.le_refl _) _
    clear hn h3 hl
    go_enter Tryd.func57, Tryd.ntmps57
    go_wp2_with (first | simp only [qn] | (at_builtin; refine wpList_cat (enc := encP) (w0 := w) rfl _ _ 26 rfl w.heap.size w.heap.size 43 i0 _ 2 24 Tryd.underlying26 hi0 hz0 hz1 hz2 rfl (by decide) _ _ [] xs (Own.made w (Nat.le_refl _)) _ (h0.below hal (Nat.le_refl _)) hal (by simp) (Nat.le_refl _) rfl rfl encP_one (by have := HL.out; simp; omega) (by decide) ?_; intro v' w' hown' hb' hB' hg'))
    go_ret
    exact ⟨_, rfl, hown', hb'⟩

set_option maxHeartbeats 2000000 in
set_option maxRecDepth 100000 in
theorem impl_PutText_c (v : Value) (xs : List Pc) (t : ByteArray) (w : World) (h : Pcs w w.heap.size v xs) :
    Calls Tryd.prog 58 #[v, .string t] w fun e w' => ∃ v', e = .returned (.tuple #[v', .int .i64 (putS xs t).2.1, .bool (putS xs t).2.2]) ∧ OwnP w' w.heap.size v' (putS xs t).1 ∧ Below w.heap.size w w' := by
  obtain ⟨n, hn⟩ : ∃ n, xs.length = n := ⟨_, rfl⟩
  obtain ⟨a, c, rfl, _, _, h3⟩ := h.pcs hn
  have HP : Hid (∀ wx, Below w.heap.size w wx → Pcs wx wx.heap.size (.slice a n c) xs) := fun wx hx' => h.on hx'
  have HN := hid hn
  cases hok : storeOk xs
  · have HO := hid (put_off (t := t) hok)
    clear h3 hn
    rw [HO.out]
    go_enter Tryd.func58, Tryd.ntmps58
    go_wp2_with fail
    refine (impl_StoreValid_c _ xs _ h).mono ?_
    rw [hok]
    rintro e w1 ⟨rfl, b1⟩
    go_wp2
    go_ret3
    exact ⟨_, rfl, Own.nil_, b1⟩
  have HK := hid hok
  have h40 := (st_in hok).1
  rw [hn] at h40
  have HL := hid (show xs.length ≤ 1000000 by omega)
  cases ht : textOk (bs t)
  · have HO := hid (put_bad hok ht)
    have HT := hid ht
    clear h3 hn ht
    rw [HO.out]
    go_enter Tryd.func58, Tryd.ntmps58
    go_wp2_with fail
    refine (impl_StoreValid_c _ xs _ h).mono ?_
    rw [hok]
    rintro e w1 ⟨rfl, b1⟩
    clear hok h
    go_wp2_with fail
    refine (impl_TextValid_e _ _ HT.out).mono ?_
    rintro e w2 ⟨rfl, rfl⟩
    go_wp2_with fail
    refine (cloneP_c _ xs _ (HP.out _ b1) HL.out).mono ?_
    rintro e w3 ⟨v', rfl, o3, b3⟩
    have s1 := b1.size
    go_wp2
    go_ret3
    exact ⟨_, rfl, o3.less s1, bl_then b1 b3⟩
  have HT := hid ht
  obtain ⟨p, hp⟩ : ∃ p, printOf (bs t) = p := ⟨_, rfl⟩
  have HZ := hid hp
  obtain ⟨q, hq⟩ : ∃ q, findAt xs p = q := ⟨_, rfl⟩
  have HQ := hid hq
  cases hg : getP xs p with
  | some u =>
    obtain ⟨x, hx1, hx2, hx3⟩ := find_at (l := xs) (n := p) hok (by unfold hasP; rw [hg]; rfl)
    have hux : u = x.text := by rw [hx2] at hg; simpa using hg.symm
    rw [hq] at hx1
    have hqn : q < n := by have := (List.getElem?_eq_some_iff.1 hx1).1; omega
    obtain ⟨b, o, r, u', rfl, hbl, hx, k0, k1⟩ := h3 q hqn
    have hxr : x = ⟨r, u'⟩ := by have := hx1.symm.trans hx.out; simpa using this
    subst hxr
    simp only at hux
    subst hux
    have HG := hid (show hasP xs p = true by unfold hasP; rw [hg]; rfl)
    have hqn' : (q : Int) < n := by omega
    by_cases hut : u = t
    · subst hut
      have HO := hid (put_there hok ht (by rw [hp]; exact hg))
      clear h3 hn ht hp hq hg hx1 hx2 hx3 hok hx k0
      rw [HO.out, HZ.out]
      go_enter Tryd.func58, Tryd.ntmps58
      go_wp2_with fail
      refine (impl_StoreValid_c _ xs _ h).mono ?_
      rw [HK.out]
      rintro e w1 ⟨rfl, b1⟩
      clear h
      go_wp2_with fail
      refine (impl_TextValid_e _ _ HT.out).mono ?_
      rintro e w2 ⟨rfl, rfl⟩
      go_wp2_with fail
      refine (impl_PrintOf_e _ _ HZ.out).mono ?_
      rintro e w2 ⟨rfl, rfl⟩
      go_wp2_with fail
      refine (impl_findPiece_c _ xs p _ (HP.out _ b1) HK.out).mono ?_
      rw [HQ.out, HG.out]
      rintro e w3 ⟨rfl, b3⟩
      have d3 := bl_then b1 b3
      have s3 := d3.size
      have j1 := (d3.cell (p := ⟨b, o + q * 2 + 1, none⟩) hbl).trans k1
      go_wp2_with fail
      refine (cloneP_c _ xs _ (HP.out _ d3) HL.out).mono ?_
      rintro e w4 ⟨v', rfl, o4, b4⟩
      go_wp2
      go_ret3
      exact ⟨_, rfl, o4.less s3, bl_then d3 b4⟩
    · have HO := hid (put_other hok ht (by rw [hp]; exact hg) hut)
      have hsn := str_ne hut
      clear h3 hn ht hp hq hg hx1 hx2 hx3 hok hx k0
      rw [HO.out]
      go_enter Tryd.func58, Tryd.ntmps58
      go_wp2_with fail
      refine (impl_StoreValid_c _ xs _ h).mono ?_
      rw [HK.out]
      rintro e w1 ⟨rfl, b1⟩
      clear h
      go_wp2_with fail
      refine (impl_TextValid_e _ _ HT.out).mono ?_
      rintro e w2 ⟨rfl, rfl⟩
      go_wp2_with fail
      refine (impl_PrintOf_e _ _ HZ.out).mono ?_
      rintro e w2 ⟨rfl, rfl⟩
      go_wp2_with fail
      refine (impl_findPiece_c _ xs p _ (HP.out _ b1) HK.out).mono ?_
      rw [HQ.out, HG.out]
      rintro e w3 ⟨rfl, b3⟩
      have d3 := bl_then b1 b3
      have s3 := d3.size
      have j1 := (d3.cell (p := ⟨b, o + q * 2 + 1, none⟩) hbl).trans k1
      go_wp2_with fail
      refine (cloneP_c _ xs _ (HP.out _ d3) HL.out).mono ?_
      rintro e w4 ⟨v', rfl, o4, b4⟩
      go_wp2
      go_ret3
      exact ⟨_, rfl, o4.less s3, bl_then d3 b4⟩
  | none =>
    have HG := hid (show hasP xs p = false by unfold hasP; rw [hg]; rfl)
    by_cases hfull : n = 40
    · have HO := hid (put_full hok ht (by rw [hp]; exact hg) (by rw [hn]; exact hfull))
      have hfi : ((n : Int) == 40) = true := by rw [hfull]; rfl
      clear h3 ht hp hq hg hok hn hfull
      rw [HO.out]
      go_enter Tryd.func58, Tryd.ntmps58
      go_wp2_with fail
      refine (impl_StoreValid_c _ xs _ h).mono ?_
      rw [HK.out]
      rintro e w1 ⟨rfl, b1⟩
      clear h
      go_wp2_with fail
      refine (impl_TextValid_e _ _ HT.out).mono ?_
      rintro e w2 ⟨rfl, rfl⟩
      go_wp2_with fail
      refine (impl_PrintOf_e _ _ HZ.out).mono ?_
      rintro e w2 ⟨rfl, rfl⟩
      go_wp2_with fail
      refine (impl_findPiece_c _ xs p _ (HP.out _ b1) HK.out).mono ?_
      rw [HQ.out, HG.out]
      rintro e w3 ⟨rfl, b3⟩
      have d3 := bl_then b1 b3
      have s3 := d3.size
      go_wp2_with fail
      refine (cloneP_c _ xs _ (HP.out _ d3) HL.out).mono ?_
      rintro e w4 ⟨v', rfl, o4, b4⟩
      go_wp2
      go_ret3
      exact ⟨_, rfl, o4.less s3, bl_then d3 b4⟩
    · have HO := hid (put_new hok ht (by rw [hp]; exact hg) (by rw [hn]; exact hfull))
      have hfi : ¬ ((n : Int) = 40) := by omega
      have HI := hid (show insP xs p t = xs.take q ++ ⟨p, t⟩ :: xs.drop q by unfold insP; rw [hq])
      have hqn := findAt_le xs p
      rw [hq] at hqn
      have HQN := hid hqn
      clear h3 ht hp hq hg hok hn hqn
      rw [HO.out, HZ.out]
      go_enter Tryd.func58, Tryd.ntmps58
      go_wp2_with fail
      refine (impl_StoreValid_c _ xs _ h).mono ?_
      rw [HK.out]
      rintro e w1 ⟨rfl, b1⟩
      clear h
      go_wp2_with fail
      refine (impl_TextValid_e _ _ HT.out).mono ?_
      rintro e w2 ⟨rfl, rfl⟩
      go_wp2_with fail
      refine (impl_PrintOf_e _ _ HZ.out).mono ?_
      rintro e w2 ⟨rfl, rfl⟩
      go_wp2_with fail
      refine (impl_findPiece_c _ xs p _ (HP.out _ b1) HK.out).mono ?_
      rw [HQ.out, HG.out]
      rintro e w3 ⟨rfl, b3⟩
      have d3 := bl_then b1 b3
      have s3 := d3.size
      go_wp2_with fail
      refine (cloneP_c _ xs _ (HP.out _ d3) HL.out).mono ?_
      rintro e w4 ⟨v', rfl, o4, b4⟩
      have d4 := bl_then d3 b4
      have s4 := b4.size
      obtain ⟨W5, hW5⟩ : ∃ W5, W5 = w4.alloc (.cells #[.int .i64 p, .string t] 43) := ⟨_, rfl⟩
      have o5 : OwnP W5 w3.heap.size v' xs := by rw [hW5]; exact o4.alloc _
      have hlt4 := o4.lt
      have hv5 : W5.heap[w4.heap.size]? = some (.cells #[.int .i64 p, .string t] 43 (0, 0)) := by rw [hW5]; exact heap_alloc_new _ _
      have hb5 : Below w.heap.size w W5 := by rw [hW5]; exact d4.alloc d4.size _
      have hs5 : w3.heap.size ≤ W5.heap.size := by rw [hW5]; simp; omega
      clear b4 o4
      go_wp2_with fail
      rw [← hW5]
      refine (insP_c v' xs w3.heap.size q w4.heap.size p t W5 o5 HQN.out hs5 hv5 (fun e => by have := (hlt4 _ e).2; omega) HL.out).mono ?_
      rintro e w6 ⟨v6, rfl, o6, g6⟩
      have hb6 := hb5.grown g6 hb5.size (fun g hg => by have := (hlt4 g hg).1; omega)
      go_wp2
      go_ret3
      exact ⟨_, rfl, by rw [HI.out]; exact o6.less s3, hb6⟩

end Go.Proofs.YtkfkcbceoekgjaaDoor
