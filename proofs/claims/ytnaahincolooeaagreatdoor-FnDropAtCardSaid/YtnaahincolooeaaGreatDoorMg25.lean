/- Walks and plain facts, joined: ReachS, Reach2. -/
import Derived.Test.YtnaahincolooeaaGreatDoorMg16
import Derived.Test.YtnaahincolooeaaGreatDoorMg22
set_option linter.unusedVariables false
set_option linter.unusedSimpArgs false

/- Walks: what roots reach, the reference's way. -/
namespace Go.Proofs.YtnaahincolooeaaGreatDoor
open Go.RowKit

theorem cell_block {w w' : World} {p : Addr} (h : w'.heap[p.block]? = w.heap[p.block]?) : w'.cell? p = w.cell? p := World.cell?_of_block h
theorem Frm.draw {S : Nat → Prop} {a w : World} (h : Frm S a w) (q : Nat) : Frm S a (w.drewN q) :=
  h.trans (S' := S) (Frm.of_below (bl_drewN (Below.refl _ _) q)) (fun _ _ e => e)
theorem Frm.then {S : Nat → Prop} {a b c : World} (h : Frm S a b) (k : Below b.heap.size b c) : Frm S a c := h.trans (S' := S) (Frm.of_below k) (fun _ _ e => e)
theorem Frm.then' {S : Nat → Prop} {a b c : World} (h : Frm S a b) (k : Frm S b c) : Frm S a c := h.trans (S' := S) k (fun _ _ e => e)
theorem entsOf_off {l : List UInt8} (h : (readFolder l).isSome = false) : entsOf l = [] := by
  unfold entsOf
  cases hr : readFolder l with
  | none => rfl
  | some x => rw [hr] at h; cases h
/-- The marks behind the first round. -/
theorem round_one {l : List Pc} {roots : List Int} {A : List Bool} (hs : storeOk l = true) (hl : A.length = l.length) (h : ∀ (j : Nat) (x : Pc), l[j]? = some x → A[j]? = some (hasI roots x.print)) : RInv l roots A := by
  refine ⟨hl, ?_, ?_⟩
  · intro i x hi hx
    rw [h i x hx] at hi
    exact rch_root (hasI_iff.1 (Option.some.inj hi)) (has_mem (List.mem_of_getElem? hx))
  · intro y hy hp
    obtain ⟨x, hx, hxy⟩ := has_spot hs hp
    exact ⟨_, x, by rw [h _ x hx, hxy, hasI_iff.2 hy], hx, hxy⟩
/-- A row of marks, the first ones anew. -/
def mixY (l : List Pc) (y : Int) (A : List Bool) (i : Nat) : List Bool := (markY l y A).take i ++ A.drop i
theorem mixY_len {l : List Pc} {y : Int} {A : List Bool} (h : A.length = l.length) (i : Nat) (hi : i ≤ l.length) : (mixY l y A i).length = l.length := by
  unfold mixY; rw [List.length_append, List.length_take, List.length_drop, markY_len h]; omega
theorem mixY_zero (l : List Pc) (y : Int) (A : List Bool) : mixY l y A 0 = A := by simp [mixY]
theorem mixY_all {l : List Pc} {y : Int} {A : List Bool} {n i : Nat} (h : A.length = l.length) (hn : l.length = n) (hi : n ≤ i) : mixY l y A i = markY l y A := by
  unfold mixY
  rw [List.take_of_length_le (by rw [markY_len h]; omega), List.drop_eq_nil_of_le (by omega), List.append_nil]
theorem mixY_at {l : List Pc} {y : Int} {A : List Bool} {i : Nat} {b : Bool} (h : A.length = l.length) (hb : A[i]? = some b) : (mixY l y A i)[i]? = some b := by
  unfold mixY
  have hi := (List.getElem?_eq_some_iff.1 hb).1
  rw [List.getElem?_append_right (by rw [List.length_take]; omega), List.length_take, markY_len h, Nat.min_eq_left (by omega), Nat.sub_self, List.getElem?_drop, Nat.add_zero, hb]
theorem mixY_step {l : List Pc} {y : Int} {A : List Bool} {i : Nat} {b : Bool} {x : Pc} (h : A.length = l.length) (hb : A[i]? = some b) (hx : l[i]? = some x) : (mixY l y A i).set i (b || decide (x.print = y)) = mixY l y A (i + 1) := by
  have hi := (List.getElem?_eq_some_iff.1 hb).1
  have hm := markY_get (y := y) hb hx
  unfold mixY
  rw [List.set_append_right _ _ (by rw [List.length_take]; omega), List.length_take, markY_len h, Nat.min_eq_left (by omega), Nat.sub_self, take_snoc' hm, List.append_assoc]
  congr 1
  obtain ⟨h1, h2⟩ := List.getElem?_eq_some_iff.1 hb
  rw [List.drop_eq_getElem_cons h1]; rfl

set_option maxHeartbeats 2000000 in
set_option maxRecDepth 100000 in
theorem spec_ReachOf_c (v u : Value) (xs : List Pc) (rts : List Int) (w : World) (h : Pcs w w.heap.size v xs) (h' : Ints w w.heap.size u rts) (hx0 : ∀ x ∈ xs, x.text.size ≤ 1048576) (hl0 : xs.length ≤ 1048576) :
    Calls Tryz.prog 139 #[v, u] w fun e w' => ∃ v', e = .returned v' ∧ OwnI w' w.heap.size v' (reachOf xs rts) ∧ Below w.heap.size w w' := by
  obtain ⟨n, hn⟩ : ∃ n, xs.length = n := ⟨_, rfl⟩
  obtain ⟨a, c, rfl, _, _, h3⟩ := h.pcs hn
  have H3 := hid h3
  have HN := hid hn
  have HX1 := hid hx0
  have HL := hid hl0
  have HP : Hid (∀ wx, Below w.heap.size w wx → Pcs wx wx.heap.size (.slice a n c) xs) := fun wx hx' => h.on hx'
  have HI : Hid (∀ wx, Below w.heap.size w wx → Ints wx wx.heap.size u rts) := fun wx hx' => h'.on hx'
  obtain ⟨W1, hW1⟩ : ∃ W1, W1 = w.alloc (.cells #[] 3) := ⟨_, rfl⟩
  have hal : Below w.heap.size w W1 := by rw [hW1]; exact (Below.refl _ _).alloc (Nat.le_refl _) _
  have hown0 : OwnI W1 w.heap.size (.slice (some ⟨w.heap.size, 0, none⟩) 0 0) [] := by rw [hW1]; exact Own.made _ (Nat.le_refl _)
  have lt0 : w.heap.size < W1.heap.size := (hown0.lt _ rfl).2
  clear hn h h' hx0 h3
  cases hok : storeOk xs
  · have HO := hid (reachOf_off (roots := rts) hok)
    have HK := hid hok
    clear hok hl0
    go_enter Tryz.func139, Tryz.ntmps139
    go_wp2_with fail
    rw [← hW1]
    clear hW1
    refine (spec_StoreValid_c _ xs _ _ (HP.out _ hal) HX1.out HL.out).mono ?_
    rw [HK.out]
    rintro e w' ⟨rfl, q, rfl⟩
    go_wp2
    go_ret
    exact ⟨_, rfl, by rw [HO.out]; exact hown0.drewN q, bl_drewN hal q⟩
  · have HO := hid (reachOf_on (roots := rts) hok)
    have HK := hid hok
    have HX := hid (fun (x : Pc) (hx : x ∈ xs) => show x.text.size ≤ 1000000 by have := textOk_size (pcOk_iff.1 (st_all hok hx)).1; omega)
    have hn40 : n ≤ 40 := by have := (st_in hok).1; have := HN.out; omega
    obtain ⟨i0, hi, hz0, hz1, hz2⟩ := info_parts info_bool
    clear hok hl0
    go_enter Tryz.func139, Tryz.ntmps139
    go_wp2_with fail
    rw [← hW1]
    refine (spec_StoreValid_c _ xs _ _ (HP.out _ hal) HX1.out HL.out).mono ?_
    rw [HK.out]
    rintro e w' ⟨rfl, q, rfl⟩
    obtain ⟨W2, hW2⟩ : ∃ W2, W2 = W1.drewN q := ⟨_, rfl⟩
    have hb2 : Below w.heap.size w W2 := by rw [hW2]; exact bl_drewN hal q
    have hown2 := hown0.drewN q
    have lt2 : w.heap.size < W2.heap.size := by rw [hW2]; exact lt0
    rw [← hW2] at hown2
    rw [← hW2]
    clear hW1 hW2 hal hown0 lt0
    go_wp2_with (at_make; refine wpList_make_full _ rfl _ _ 138 rfl W2.heap.size 4 i0 (.bool false) 1 Tryz.underlying138 hi hz0 hz1 _ _ _ _ n rfl rfl rfl rfl ?b2 ?b3 (Nat.le_refl _) ?_)
    case b2 => rw [hz2]; omega
    case b3 => unfold maxLen; omega
    intro w3 o3 g3
    have q3 : OwnB w3 W2.heap.size (.slice (some ⟨W2.heap.size, 0, none⟩) n n) (List.replicate n false) := by
      unfold OwnB Own
      rw [List.length_replicate, ← made_flat (enc := encB) (.bool false) false rfl n]
      exact o3
    have hb3 : Below w.heap.size w w3 := hb2.grown g3 hb2.size (by simp)
    have hown3 : OwnI w3 w.heap.size (.slice (some ⟨w.heap.size, 0, none⟩) 0 0) [] := hown2.kept g3 (.inr (by simp [Value.ownBlock]))
    have HOUT := hid hown3
    have HB3 := hid hb3
    have LT2 := hid lt2
    have lt3 : W2.heap.size < w3.heap.size := (q3.lt _ rfl).2
    clear o3 g3 hi hz0 hz1 hz2 hown2 hown3 hb2 hb3 lt2
    have hbel : Hid (∀ wx, Frm (fun k => k = W2.heap.size) w3 wx → Below w.heap.size w wx) := hid fun wx hf => HB3.out.trans (hf.below (fun k e => by have := LT2.out; omega) HB3.out.size)
    have hcel : Hid (∀ (wx : World) (A : List Bool) (i : Nat) (b : Bool), OwnB wx W2.heap.size (.slice (some ⟨W2.heap.size, 0, none⟩) n n) A → A.length = n → A[i]? = some b → wx.cell? ⟨W2.heap.size, i, none⟩ = some (.bool b) ∧ wx.frozen? ⟨W2.heap.size, i, none⟩ = false) := hid fun wx A i b ho hA hb => by
      unfold OwnB Own at ho
      rw [hA] at ho
      have hi := (List.getElem?_eq_some_iff.1 hb).1
      have := flatMap_get (enc := encB) (fun _ => rfl) A i 0 _ _ hb rfl
      exact ⟨(ho.cellAt i (by omega)).trans (by simpa using this), ho.frozenAt i⟩
    have hsto : Hid (∀ (wx : World) (A : List Bool) (i : Nat) (b : Bool), OwnB wx W2.heap.size (.slice (some ⟨W2.heap.size, 0, none⟩) n n) A → A.length = n → OwnB (wx.setCell ⟨W2.heap.size, i, none⟩ (.bool b)) W2.heap.size (.slice (some ⟨W2.heap.size, 0, none⟩) n n) (A.set i b)) := hid fun wx A i b ho hA => by
      unfold OwnB Own at ho ⊢
      rw [List.length_set, hA, ← set_flatB]
      rw [hA] at ho
      exact (ho.stored i (.bool b)).1
    go_wp2
    go_loopw [7] (fun iv wr => ∃ (r : Nat) (A : List Bool), r ≤ n + 1 ∧ iv = .int .i64 r ∧ OwnB wr W2.heap.size (.slice (some ⟨W2.heap.size, 0, none⟩) n n) A ∧ A.length = n ∧ Hid (0 < r → RInv xs rts A ∧ (Cpl xs rts A ∨ r ≤ A.count true + 1)) ∧ Frm (fun k => k = W2.heap.size) w3 wr) (fun iv _ => n + 1 - (intOf iv).toNat)
    case atStart => exact ⟨0, _, by omega, rfl, q3, by simp, hid (fun h0 => absurd h0 (by omega)), Frm.refl _ _⟩
    case round =>
      obtain ⟨r, A0, hr, rfl, hrow, hA0, hinv, hfr⟩ := hrel
      clear q3
      by_cases hrn : r ≤ n
      · by_cases hr0 : r = 0
        · have hd1 : decide (r = 0) = true := by simp [hr0]
          have hd2 : (r == 0) = true := by simp [hr0]
          have HR0 := hid hr0
          clear hr0 hinv
          go_wp2
          go_loopw [8] (fun iv wr2 => ∃ (k : Nat) (A : List Bool), k ≤ n ∧ iv = .int .i64 k ∧ OwnB wr2 W2.heap.size (.slice (some ⟨W2.heap.size, 0, none⟩) n n) A ∧ A.length = n ∧ Hid (∀ (j : Nat) (x : Pc), j < k → xs[j]? = some x → A[j]? = some (hasI rts x.print)) ∧ Frm (fun k => k = W2.heap.size) w3 wr2) (fun iv _ => n - (intOf iv).toNat)
          case atStart => exact ⟨0, A0, Nat.zero_le _, rfl, hrow, hA0, hid (fun j x hj => absurd hj (by omega)), hfr⟩
          case round =>
            obtain ⟨k, A, hk, rfl, hrow2, hA, hdone, hfr2⟩ := hrel
            clear hrow hfr
            by_cases hkn : k < n
            · obtain ⟨b, o, pr, t, rfl, hbl, hx, k0, _⟩ := H3.out k hkn
              have hb4 := hbel.out _ hfr2
              have j0 := (hb4.cell (p := ⟨b, o + k * 2, none⟩) hbl).trans k0
              obtain ⟨z0, hAk⟩ : ∃ z, A[k]? = some z := ⟨_, List.getElem?_eq_getElem (by omega)⟩
              obtain ⟨d1, f1⟩ := hcel.out _ A k _ hrow2 hA hAk
              have HI4 := hid (HI.out _ hb4)
              have HSt := hid (hsto.out _ A k (hasI rts pr) hrow2 hA)
              have HF := hid (hfr2.then' (Frm.set (S := fun k => k = W2.heap.size) (i := k) rfl (.bool (hasI rts pr))))
              have HD := hid (show ∀ (j : Nat) (x : Pc), j < k + 1 → xs[j]? = some x → (A.set k (hasI rts pr))[j]? = some (hasI rts x.print) from fun j x hj hxj => by
                by_cases e : k = j
                · subst e
                  rw [hx.out] at hxj
                  obtain rfl := Option.some.inj hxj
                  rw [List.getElem?_set_self (by omega)]
                · rw [List.getElem?_set_ne e]; exact hdone.out j x (by omega) hxj)
              have HA := hid hA
              clear k0 hAk hb4 hrow2 hfr2 hA
              go_wp2_with (go_at_call 140; refine (spec_l19Has_c _ rts pr _ _ HI4.out).mono ?_; rintro e w' ⟨rfl, rfl⟩)
              go_roundw
              case rel => exact ⟨k + 1, _, by omega, by go_num, HSt.out, by rw [List.length_set, HA.out], HD, HF.out⟩
              case measure => simp [intOf]; omega
            · have HR := hid (round_one (roots := rts) HK.out (hA.trans HN.out.symm) (fun j x hx => hdone.out j x (by have := (List.getElem?_eq_some_iff.1 hx).1; have := HN.out; omega) hx))
              go_wp2
              go_roundw
              case rel => exact ⟨r + 1, A, by omega, by go_num, hrow2, hA, hid (fun _ => ⟨HR.out, .inr (by have := HR0.out; omega)⟩), hfr2⟩
              case measure => simp [intOf]; omega
        · have hr1 : 0 < r := by omega
          have HI1 := hid (hinv.out hr1)
          have hd1 : decide (r = 0) = false := by simp [hr0]
          have hd2 : (r == 0) = false := by simp [hr0]
          have HR0 := hid hr0
          clear hr0 hinv
          go_wp2
          go_loopw [8] (fun iv wr2 => ∃ (k : Nat) (A : List Bool), k ≤ n ∧ iv = .int .i64 k ∧ OwnB wr2 W2.heap.size (.slice (some ⟨W2.heap.size, 0, none⟩) n n) A ∧ A.length = n ∧ Hid (RInv xs rts A ∧ Up A0 A ∧ ∀ (i : Nat) (x : Pc), i < k → A0[i]? = some true → xs[i]? = some x → ∀ y ∈ prs x, hasP xs y = true → OnA A xs y) ∧ Frm (fun k => k = W2.heap.size) w3 wr2) (fun iv _ => n - (intOf iv).toNat)
          case atStart => exact ⟨0, A0, Nat.zero_le _, rfl, hrow, hA0, hid ⟨HI1.out.1, Up.rfl' _, fun i x hi => absurd hi (by omega)⟩, hfr⟩
          case round =>
            obtain ⟨k, A1, hk, rfl, hrow2, hA1, hin, hfr2⟩ := hrel
            clear hrow hfr
            by_cases hkn : k < n
            · obtain ⟨b, o, pr, t, rfl, hbl, hx, _, k1⟩ := H3.out k hkn
              have hb4 := hbel.out _ hfr2
              have j1 := (hb4.cell (p := ⟨b, o + k * 2 + 1, none⟩) hbl).trans k1
              have HT := hid (HX.out _ (List.mem_of_getElem? hx.out))
              obtain ⟨es, hes⟩ : ∃ es, entsOf (bs t) = es := ⟨_, rfl⟩
              have HES := hid hes
              have hm3 := entsOf_len (bs t)
              rw [hes] at hm3
              obtain ⟨m, hm⟩ : ∃ m, es.length = m := ⟨_, rfl⟩
              have HM := hid hm
              have hm4 : m ≤ 3 := by omega
              obtain ⟨f, hf⟩ : ∃ f, (readFolder (bs t)).isSome = f := ⟨_, rfl⟩
              have HF := hid hf
              have HFM := hid (show f = false → m = 0 from fun e => by rw [e] at hf; rw [← hm, ← hes, entsOf_off hf]; rfl)
              have hge := (hrow2.lt _ rfl).2
              have HA1 := hid hA1
              clear k1 hes hm3 hf hA1 hb4
              go_wp2_with fail
              refine (spec_ReadFolder_c t _ HT.out).mono ?_
              rw [HES.out, HF.out]
              rintro e w4 ⟨lv, rfl, o4, b4⟩
              have hrow4 := hrow2.on b4
              have hfr4 := hfr2.then b4
              obtain ⟨la, lc, rfl, _, _, _⟩ := (Rd.of_own o4).ents hm
              have hlt4 := hid o4.lt
              have O4 := hid o4
              obtain ⟨z, hz⟩ : ∃ z, A1[k]? = some z := ⟨_, List.getElem?_eq_getElem (by have := HA1.out; omega)⟩
              obtain ⟨d1, f1⟩ := hcel.out _ A1 k z hrow4 HA1.out hz
              have HZ := hid hz
              clear hm b4 hrow2 hfr2 j1 o4 hz
              cases z
              · have HRL := hid (show RInv xs rts A1 ∧ Up A0 A1 ∧ ∀ (i : Nat) (x : Pc), i < k + 1 → A0[i]? = some true → xs[i]? = some x → ∀ y ∈ prs x, hasP xs y = true → OnA A1 xs y from ⟨hin.out.1, hin.out.2.1, fun i x hi h0 hxi => by
                  by_cases e : i = k
                  · subst e
                    have := hin.out.2.1.2 i h0
                    rw [HZ.out] at this; cases this
                  · exact hin.out.2.2 i x (by omega) h0 hxi⟩)
                by_cases hm0 : 0 < m
                · go_wp2
                  refine wp_loop_rounds 1 ?_
                  rw [rounds_succ]
                  go_wp2
                  go_roundw
                  case rel => exact ⟨k + 1, A1, by omega, by go_num, hrow4, HA1.out, HRL, hfr4⟩
                  case measure => simp [intOf]; omega
                · have hd0 : decide (0 < m) = false := by simp; omega
                  go_wp2
                  refine wp_loop_rounds 1 ?_
                  rw [rounds_succ]
                  go_wp2
                  go_roundw
                  case rel => exact ⟨k + 1, A1, by omega, by go_num, hrow4, HA1.out, HRL, hfr4⟩
                  case measure => simp [intOf]; omega
              · have HXP := hid (show prs ⟨pr, t⟩ = es.map (·.print) by unfold prs; rw [HES.out])
                clear d1 f1
                go_wp2
                go_loopw [11] (fun iv wr3 => ∃ (j : Nat) (A : List Bool), j ≤ m ∧ iv = .int .i64 j ∧ OwnB wr3 W2.heap.size (.slice (some ⟨W2.heap.size, 0, none⟩) n n) A ∧ A.length = n ∧ Hid (RInv xs rts A ∧ Up A1 A ∧ ∀ y ∈ (es.map (·.print)).take j, hasP xs y = true → OnA A xs y) ∧ Frm (fun k => k = W2.heap.size) w4 wr3) (fun iv _ => m - (intOf iv).toNat)
                case atStart => exact ⟨0, A1, Nat.zero_le _, rfl, hrow4, HA1.out, hid ⟨hin.out.1, Up.rfl' _, fun y hy => by simp at hy⟩, Frm.refl _ _⟩
                case round =>
                  obtain ⟨j, A, hj, rfl, hrow5, hA, hin5, hfr5⟩ := hrel
                  clear hrow4
                  by_cases hjm : j < m
                  · have o5 := O4.out.frm hfr5 (fun g hg e => by have := (hlt4.out g hg).1; omega)
                    obtain ⟨_, _, hv, _, _, H5⟩ := (Rd.of_own o5).ents HM.out
                    simp only [Value.slice.injEq] at hv
                    obtain ⟨e1, _, e2⟩ := hv
                    subst e1
                    subst e2
                    obtain ⟨eb, eo, nm, y, rfl, hebl, hex, _, c1⟩ := H5 j hjm
                    have hAk := hin5.out.2.1.2 k HZ.out
                    obtain ⟨d1, f1⟩ := hcel.out _ A k true hrow5 hA hAk
                    have HY := hid (show (es.map (·.print)).take (j + 1) = (es.map (·.print)).take j ++ [y] from take_snoc' (x := y) (by rw [List.getElem?_map, hex.out]; rfl))
                    have hft : f = true := by
                      cases f
                      · have := HFM.out rfl; omega
                      · rfl
                    subst hft
                    have HA := hid hA
                    have HEB := hid (show W2.heap.size < eb by have := (hlt4.out eb rfl).1; omega)
                    have HC1 := hid c1
                    have HEL := hid hebl
                    clear H5 hAk c1 hA o5 hebl
                    go_wp2
                    go_loopw [12] (fun iv wr4 => ∃ (i : Nat), i ≤ n ∧ iv = .int .i64 i ∧ OwnB wr4 W2.heap.size (.slice (some ⟨W2.heap.size, 0, none⟩) n n) (mixY xs y A i) ∧ Frm (fun k => k = W2.heap.size) wr wr4) (fun iv _ => n - (intOf iv).toNat)
                    case atStart => exact ⟨0, Nat.zero_le _, rfl, by rw [mixY_zero]; exact hrow5, Frm.refl _ _⟩
                    case round =>
                      obtain ⟨i, hi, rfl, hrow6, hfr6⟩ := hrel
                      clear hrow5 d1 f1
                      have hAN : A.length = xs.length := HA.out.trans HN.out.symm
                      by_cases hin6 : i < n
                      · obtain ⟨b', o', pr', t', hbo, hbl', hx', k6, _⟩ := H3.out i hin6
                        simp only [Option.some.injEq, Addr.mk.injEq, and_true] at hbo
                        obtain ⟨rfl, rfl⟩ := hbo
                        have hb6 := hbel.out _ (hfr4.then' (hfr5.then' hfr6))
                        have j6 := (hb6.cell (p := ⟨b, o + i * 2, none⟩) hbl').trans k6
                        have c6 := (cell_block (p := ⟨eb, eo + j * 2 + 1, none⟩) (hfr6.block eb HEL.out (by have := HEB.out; omega))).trans HC1.out
                        obtain ⟨z, hz⟩ : ∃ z, A[i]? = some z := ⟨_, List.getElem?_eq_getElem (by have := HA.out; omega)⟩
                        have hmz := mixY_at (y := y) hAN hz
                        have HST := hid (mixY_step (y := y) hAN hz hx'.out)
                        have hml : (mixY xs y A i).length = n := by rw [mixY_len hAN i (by have := HN.out; omega)]; exact HN.out
                        obtain ⟨d6, f6⟩ := hcel.out _ _ i z hrow6 hml hmz
                        have HML := hid hml
                        clear k6 hmz hz hAN hml hb6
                        cases z
                        · by_cases hpy : pr' = y
                          · have he1 : (pr' == y) = true := by simp [hpy]
                            have he2 : decide (pr' = y) = true := by simp [hpy]
                            have HS2 := hid (show (mixY xs y A i).set i true = mixY xs y A (i + 1) by have := HST.out; rw [he2] at this; exact this)
                            clear hpy HST
                            go_wp2
                            refine wp_region_early (n := 20) _ rfl rfl (by kernel_rfl) (by kernel_rfl) (fun _ _ _ _ h => h) ?_
                            simp only [List.take_succ_cons, List.take_zero, List.drop_succ_cons, List.drop_zero, Act.put, Act.eval, List.setIfInBounds_toArray, List.set_cons_succ, List.set_cons_zero]
                            repeat (go_big_quiet_step (fail))
                            refine wpQuiet_nil ?_
                            intro q6
                            go_wp2
                            go_roundw
                            case rel => exact ⟨i + 1, by omega, by go_num, by rw [← HS2.out]; exact hsto.out _ _ i true (hrow6.drewN q6) HML.out, (hfr6.draw q6).then' (Frm.set (S := fun k => k = W2.heap.size) rfl _)⟩
                            case measure => simp [intOf]; omega
                          · have he1 : (pr' == y) = false := by simp [hpy]
                            have he2 : decide (pr' = y) = false := by simp [hpy]
                            have HS2 := hid (show (mixY xs y A i).set i false = mixY xs y A (i + 1) by have := HST.out; rw [he2] at this; exact this)
                            clear hpy HST
                            go_wp2
                            refine wp_region_early (n := 20) _ rfl rfl (by kernel_rfl) (by kernel_rfl) (fun _ _ _ _ h => h) ?_
                            simp only [List.take_succ_cons, List.take_zero, List.drop_succ_cons, List.drop_zero, Act.put, Act.eval, List.setIfInBounds_toArray, List.set_cons_succ, List.set_cons_zero]
                            repeat (go_big_quiet_step (fail))
                            refine wpQuiet_nil ?_
                            intro q6
                            go_wp2
                            go_roundw
                            case rel => exact ⟨i + 1, by omega, by go_num, by rw [← HS2.out]; exact hsto.out _ _ i false (hrow6.drewN q6) HML.out, (hfr6.draw q6).then' (Frm.set (S := fun k => k = W2.heap.size) rfl _)⟩
                            case measure => simp [intOf]; omega
                        · have HS2 := hid (show (mixY xs y A i).set i true = mixY xs y A (i + 1) from HST.out)
                          clear HST
                          go_wp2
                          refine wp_region_early (n := 20) _ rfl rfl (by kernel_rfl) (by kernel_rfl) (fun _ _ _ _ h => h) ?_
                          simp only [List.take_succ_cons, List.take_zero, List.drop_succ_cons, List.drop_zero, Act.put, Act.eval, List.setIfInBounds_toArray, List.set_cons_succ, List.set_cons_zero]
                          repeat (go_big_quiet_step (fail))
                          refine wpQuiet_nil ?_
                          intro q6
                          go_wp2
                          go_roundw
                          case rel => exact ⟨i + 1, by omega, by go_num, by rw [← HS2.out]; exact hsto.out _ _ i true (hrow6.drewN q6) HML.out, (hfr6.draw q6).then' (Frm.set (S := fun k => k = W2.heap.size) rfl _)⟩
                          case measure => simp [intOf]; omega
                      · have HMA := hid (mixY_all (y := y) hAN HN.out (show n ≤ i by omega))
                        have HRL := hid (show RInv xs rts (markY xs y A) ∧ Up A1 (markY xs y A) ∧ ∀ y' ∈ (es.map (·.print)).take (j + 1), hasP xs y' = true → OnA (markY xs y A) xs y' from
                          ⟨markY_inv hin5.out.1 (fun hp => rch_step (List.mem_of_getElem? hx.out) (hin5.out.1.snd k _ (hin5.out.2.1.2 k HZ.out) hx.out) (by rw [HXP.out]; exact List.mem_of_getElem? (show (es.map (·.print))[j]? = some y by rw [List.getElem?_map, hex.out]; rfl)) hp),
                           hin5.out.2.1.trans (markY_up hAN), fun y' hy' hp' => by
                            rw [HY.out] at hy'
                            rcases List.mem_append.1 hy' with h1 | h1
                            · exact (markY_up hAN).on (hin5.out.2.2 y' h1 hp')
                            · obtain rfl : y' = y := by simpa using h1
                              exact markY_on hAN HK.out hp'⟩)
                        have hlen7 : (markY xs y A).length = n := by rw [markY_len hAN]; exact HN.out
                        have HL7 := hid hlen7
                        clear hlen7
                        go_wp2
                        go_roundw
                        case rel => exact ⟨j + 1, markY xs y A, by omega, by go_num, by rw [← HMA.out]; exact hrow6, HL7.out, HRL, hfr5.then' hfr6⟩
                        case measure => simp [intOf]; omega
                  · have HRL := hid (show RInv xs rts A ∧ Up A0 A ∧ ∀ (i : Nat) (x : Pc), i < k + 1 → A0[i]? = some true → xs[i]? = some x → ∀ y ∈ prs x, hasP xs y = true → OnA A xs y from ⟨hin5.out.1, hin.out.2.1.trans hin5.out.2.1, fun i x hi h0 hxi y hy hp => by
                      by_cases e : i = k
                      · subst e
                        rw [hx.out] at hxi
                        obtain rfl := Option.some.inj hxi
                        rw [HXP.out] at hy
                        exact hin5.out.2.2 y (by rw [List.take_of_length_le (by rw [List.length_map, HM.out]; omega)]; exact hy) hp
                      · exact hin5.out.2.1.on (hin.out.2.2 i x (by omega) h0 hxi y hy hp)⟩)
                    go_wp2
                    go_roundw
                    case rel => exact ⟨k + 1, A, by omega, by go_num, hrow5, hA, HRL, hfr4.then' hfr5⟩
                    case measure => simp [intOf]; omega
            · have HRL := hid (show RInv xs rts A1 ∧ (Cpl xs rts A1 ∨ r + 1 ≤ A1.count true + 1) from ⟨hin.out.1, by
                have := round_gain (r := r - 1) HK.out HI1.out.1 hin.out.1 hin.out.2.1 (fun i x h0 hxi => hin.out.2.2 i x (by have := (List.getElem?_eq_some_iff.1 hxi).1; have := HN.out; omega) h0 hxi) (HI1.out.2.imp id (fun h => by omega))
                exact this.imp id (fun h => by omega)⟩)
              go_wp2
              go_roundw
              case rel => exact ⟨r + 1, A1, by omega, by go_num, hrow2, hA1, hid (fun _ => HRL.out), hfr2⟩
              case measure => simp [intOf]; omega
      · have HRB := hid (show A0 = reachB xs rts from round_end HK.out (hinv.out (by omega)).1 ((hinv.out (by omega)).2.imp id (fun h => by have := HN.out; omega)))
        have hb4 := hbel.out _ hfr
        have hout4 := HOUT.out.frm hfr (fun g hg e => by have := LT2.out; simp only [Value.ownBlock, Option.some.injEq] at hg; omega)
        have HA0 := hid hA0
        have hsz4 := hid (hrow.lt _ rfl).2
        clear hinv hfr hA0
        go_wp2
        go_loopw [5, 13] (fun out iv wr2 => ∃ (k : Nat) (acc : List Int), k ≤ n ∧ iv = .int .i64 k ∧ OwnI wr2 w.heap.size out acc ∧ Hid (acc = ((xs.take k).filter fun p => inR xs rts p.print).map (·.print)) ∧ acc.length ≤ k ∧ OwnB wr2 W2.heap.size (.slice (some ⟨W2.heap.size, 0, none⟩) n n) A0 ∧ Hid (∀ g, out.ownBlock = some g → g ≠ W2.heap.size) ∧ W2.heap.size < wr2.heap.size ∧ Below w.heap.size w wr2) (fun _ iv _ => n - (intOf iv).toNat)
        case atStart => exact ⟨0, [], Nat.zero_le _, rfl, hout4, rfl, Nat.zero_le _, hrow, hid (fun g hg => by have := LT2.out; simp only [Value.ownBlock, Option.some.injEq] at hg; omega), hsz4.out, hb4⟩
        case round =>
          obtain ⟨k, acc, hk, rfl, hown, hacc, hlen, hrow2, hne2, hsz2, hb⟩ := hrel
          clear hrow hout4 hb4
          by_cases hkn : k < n
          · obtain ⟨b, o, pr, t, rfl, hbl, hx, k0, _⟩ := H3.out k hkn
            have j0 := (hb.cell (p := ⟨b, o + k * 2, none⟩) hbl).trans k0
            have HF := hid (reach_succ (f := fun p => inR xs rts p.print) hx.out)
            have hAk : A0[k]? = some (inR xs rts pr) := by rw [HRB.out]; unfold reachB; rw [List.getElem?_map, hx.out]; rfl
            obtain ⟨d1, _⟩ := hcel.out _ A0 k _ hrow2 HA0.out hAk
            have hB := hb.size
            clear k0 hAk
            obtain ⟨z, hz⟩ : ∃ z, inR xs rts pr = z := ⟨_, rfl⟩
            rw [hz] at d1
            have HZ := hid hz
            clear hz
            cases z
            · have HS := hid (show ((xs.take (k + 1)).filter fun p => inR xs rts p.print).map (·.print) = acc by rw [HF.out, ← hacc.out]; simp only [HZ.out]; simp)
              go_wp2
              go_roundw
              case rel => exact ⟨k + 1, acc, by omega, by go_num, hown, hid HS.out.symm, by omega, hrow2, hne2, hsz2, hb⟩
              case measure => simp [intOf]; omega
            · have HS := hid (show ((xs.take (k + 1)).filter fun p => inR xs rts p.print).map (·.print) = acc ++ [pr] by rw [HF.out, ← hacc.out]; simp only [HZ.out]; simp)
              go_wp2_with (at_builtin; refine push_int (w0 := w) rfl _ _ rfl w.heap.size w.heap.size _ acc pr hown hb hB (Nat.le_refl _) rfl rfl (by omega) ?_; intro v' w' hown' hb' hB' hg')
              go_roundw
              case rel => exact ⟨k + 1, _, by omega, by go_num, hown', hid HS.out.symm, by simp; omega, hrow2.kept hg'.1 (.inr (fun e => hne2.out _ e.symm rfl)), hid (fun g hg => by
                rcases hg'.2 g hg with h6 | h6
                · exact hne2.out g h6
                · omega), Nat.lt_of_lt_of_le hsz2 hg'.1.size, hb'⟩
              case measure => simp [intOf]; omega
          · have HA := hid (show acc = reachOf xs rts by rw [HO.out, hacc.out, take_all HN.out (show n ≤ k by omega)])
            go_wp2
            go_ret
            exact ⟨_, rfl, by rw [← HA.out]; exact hown, hb⟩

end Go.Proofs.YtnaahincolooeaaGreatDoor

/- Walks: what roots reach, the program's way: the whole. -/
namespace Go.Proofs.YtnaahincolooeaaGreatDoor
open Go.RowKit

theorem todo_le {A : List Bool} {todo : List Nat} {m : Nat} (h : reachMu (A, todo) ≤ m) : todo.length ≤ m := by simp only [reachMu] at h; omega
theorem nil_or_snoc {α : Type} (l : List α) : l = [] ∨ ∃ (t : List α) (i : α), l = t ++ [i] := by
  rcases List.eq_nil_or_concat l with h | ⟨t, x, h⟩
  · exact .inl h
  · exact .inr ⟨t, x, by simpa using h⟩
theorem hmf_c (fn : Fn) (first cap : Array Value) (w : World) : (Instr.makeFunc fn first cap).run Tryz.prog w = .ok (.func fn first cap) w := rfl
theorem drop_at {α : Type} {xs : List α} {k : Nat} {x : α} (h : xs[k]? = some x) : xs.drop k = x :: xs.drop (k + 1) := by
  obtain ⟨h1, h2⟩ := List.getElem?_eq_some_iff.1 h
  rw [List.drop_eq_getElem_cons h1, h2]


end Go.Proofs.YtnaahincolooeaaGreatDoor
