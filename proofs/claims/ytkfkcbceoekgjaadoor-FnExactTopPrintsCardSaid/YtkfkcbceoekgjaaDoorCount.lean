/- Walks: how many entries name each piece. -/
import Derived.Test.YtkfkcbceoekgjaaDoorNamed
namespace Go.Proofs.YtkfkcbceoekgjaaDoor
open Go.RowKit

/-- For every piece the times that its print stands in a row. -/
def cntIn (l : List Pc) (ns : List Int) : List Int := l.map fun p => ((ns.count p.print : Nat) : Int)
noncomputable def countsOf (l : List Pc) : List Int := if storeOk l then cntIn l (named l) else []
theorem cnt_len (l : List Pc) (ns : List Int) : (cntIn l ns).length = l.length := by simp [cntIn]
theorem cnt_get {l : List Pc} {i : Nat} {x : Pc} (ns : List Int) (h : l[i]? = some x) : (cntIn l ns)[i]? = some ((ns.count x.print : Nat) : Int) := by simp [cntIn, h]
theorem cnt_nil (l : List Pc) : cntIn l [] = List.replicate l.length 0 := by
  unfold cntIn
  rw [List.eq_replicate_iff]
  simp
theorem cnt_snoc (ns : List Int) (y p : Int) : (ns ++ [y]).count p = ns.count p + if y = p then 1 else 0 := by
  rw [List.count_append, List.count_singleton]
  simp
theorem countsOf_off {l : List Pc} (h : storeOk l = false) : countsOf l = [] := by unfold countsOf; rw [h]; rfl
theorem countsOf_on {l : List Pc} (h : storeOk l = true) : countsOf l = cntIn l (named l) := by unfold countsOf; rw [h]; rfl
theorem countsOf_len {l : List Pc} : (countsOf l).length ≤ 40 := by
  cases h : storeOk l
  · rw [countsOf_off h]; simp
  · rw [countsOf_on h, cnt_len]; exact (st_in h).1
theorem cnt_no {l : List Pc} {y : Int} (ns : List Int) (h : hasP l y = false) : cntIn l (ns ++ [y]) = cntIn l ns := by
  unfold cntIn
  refine List.map_congr_left (fun x hx => ?_)
  rw [cnt_snoc, if_neg (fun e => ?_)]
  · rfl
  · have := hasP_iff.2 ⟨x, hx, e.symm⟩
    rw [h] at this; cases this
theorem has_at {l : List Pc} {y : Int} (hs : storeOk l = true) (h : hasP l y = true) : ∃ x, l[findAt l y]? = some x ∧ x.print = y := by
  refine Classical.byContradiction (fun hc => ?_)
  have := find_no (st_asc hs) (n := y) (fun x hx e => hc ⟨x, hx, e⟩)
  unfold hasP at h
  rw [this] at h; cases h
theorem cnt_yes {l : List Pc} {y : Int} (ns : List Int) (hs : storeOk l = true) (h : hasP l y = true) : cntIn l (ns ++ [y]) = (cntIn l ns).set (findAt l y) ((ns.count y : Nat) + 1 : Int) := by
  obtain ⟨x, hx, rfl⟩ := has_at hs h
  apply List.ext_getElem?
  intro j
  by_cases hj : j = findAt l x.print
  · rw [hj, cnt_get _ hx, List.getElem?_set_self (by rw [cnt_len]; exact (List.getElem?_eq_some_iff.1 hx).1), cnt_snoc, if_pos rfl]
    simp
  · rw [List.getElem?_set_ne (Ne.symm hj)]
    unfold cntIn
    rw [List.getElem?_map, List.getElem?_map]
    cases hz : l[j]? with
    | none => rfl
    | some z =>
      have hne : x.print ≠ z.print := by
        rcases Nat.lt_or_gt_of_ne hj with h1 | h1
        · have := asc_get (st_asc hs) hz hx h1; omega
        · have := asc_get (st_asc hs) hx hz h1; omega
      simp only [Option.map_some]
      rw [cnt_snoc, if_neg hne]
      simp
theorem set_flat (xs : List Int) (i : Nat) (z : Int) : (xs.flatMap encI).set i (.int .i64 z) = (xs.set i z).flatMap encI := by
  unfold encI
  rw [← List.map_eq_flatMap, ← List.map_eq_flatMap, List.map_set]

set_option maxHeartbeats 2000000 in
set_option maxRecDepth 100000 in
theorem impl_NameCounts_c (v : Value) (xs : List Pc) (w : World) (h : Pcs w w.heap.size v xs) (hx0 : ∀ x ∈ xs, x.text.size ≤ 1048576) (hl0 : xs.length ≤ 1048576) (hg : Glob w) :
    Calls Tryd.prog 10 #[v] w fun e w' => ∃ v', e = .returned v' ∧ OwnI w' w.heap.size v' (countsOf xs) ∧ Below w.heap.size w w' := by
  obtain ⟨n, hn⟩ : ∃ n, xs.length = n := ⟨_, rfl⟩
  obtain ⟨a, c, rfl, _, _, _⟩ := h.pcs hn
  have HP : Hid (∀ wx, Below w.heap.size w wx → Pcs wx wx.heap.size (.slice a n c) xs) := fun wx hx' => h.on hx'
  have HL := hid hl0
  have HN := hid hn
  have HG := hid hg
  clear hx0 hg
  cases hok : storeOk xs
  · have HO := hid (countsOf_off hok)
    clear hn hl0
    go_enter Tryd.func10, Tryd.ntmps10
    go_wp2_with fail
    refine (impl_StoreValid_c _ xs _ h).mono ?_
    rw [hok]
    rintro e w1 ⟨rfl, b1⟩
    go_wp2
    go_ret
    exact ⟨_, rfl, by rw [HO.out]; exact Own.nil_, b1⟩
  · have HO := hid (countsOf_on hok)
    have HK := hid hok
    have HX := hid (fun (x : Pc) (hx : x ∈ xs) => show x.text.size ≤ 1000000 by have := textOk_size (pcOk_iff.1 (st_all hok hx)).1; omega)
    have hn40 : n ≤ 40 := by have := (st_in hok).1; omega
    obtain ⟨ns, hns⟩ : ∃ ns, named xs = ns := ⟨_, rfl⟩
    have HNS := hid hns
    obtain ⟨m, hm⟩ : ∃ m, ns.length = m := ⟨_, rfl⟩
    have HM := hid hm
    have hl : m ≤ 120 := by have := named_len xs; rw [hns, hm] at this; omega
    obtain ⟨i0, hi, hz0, hz1, hz2⟩ := info_parts info_int
    clear hns hn hl0
    go_enter Tryd.func10, Tryd.ntmps10
    go_wp2_with fail
    refine (impl_StoreValid_c _ xs _ h).mono ?_
    rw [hok]
    rintro e w0 ⟨rfl, b0⟩
    clear hok h
    go_wp2_with (at_make; refine wpList_make_full _ rfl _ _ 24 rfl w0.heap.size 3 i0 (.int .i64 0) 1 Tryd.underlying24 hi hz0 hz1 _ _ _ _ n rfl rfl rfl rfl ?b2 ?b3 (Nat.le_refl _) ?_)
    case b2 => rw [hz2]; omega
    case b3 => unfold maxLen; omega
    intro w1 o1 g1
    have q1 : OwnI w1 w0.heap.size (.slice (some ⟨w0.heap.size, 0, none⟩) n n) (cntIn xs []) := by
      unfold OwnI Own
      rw [cnt_len, cnt_nil, HN.out, ← made_flat (enc := encI) (.int .i64 0) 0 rfl n]
      exact o1
    have b1 := b0.grown g1 b0.size (by simp)
    have hg1 := (q1.lt _ rfl).2
    have hs0 := b0.size
    clear o1 g1 hi hz0 hz1 hz2
    go_wp2_with fail
    refine (impl_namedPrints_c _ xs _ (HP.out _ b1) HX.out HL.out (HG.out.on b1)).mono ?_
    rw [HNS.out]
    rintro e w2 ⟨nv, rfl, o2, b2'⟩
    have b2 := bl_then b1 b2'
    have q2 := q1.on b2'
    obtain ⟨a', c', rfl, _, _, _⟩ := (Rd.of_own o2).ints hm
    clear b2' hm q1 b1 b0
    go_wp2
    go_loopw [17] (fun i wr => ∃ (k : Nat), k ≤ m ∧ i = .int .i64 k ∧ OwnI wr w0.heap.size (.slice (some ⟨w0.heap.size, 0, none⟩) n n) (cntIn xs (ns.take k)) ∧ OwnI wr w1.heap.size (.slice a' m c') ns ∧ Below w.heap.size w wr) (fun i _ => m - (intOf i).toNat)
    case atStart => exact ⟨0, Nat.zero_le _, rfl, q2, o2, b2⟩
    case round =>
      obtain ⟨k, hk, rfl, hown, hol, hb⟩ := hrel
      clear q2 o2 b2
      by_cases hlt : k < m
      · obtain ⟨_, _, hv, _, _, h3⟩ := (Rd.of_own hol).ints HM.out
        simp only [Value.slice.injEq] at hv
        obtain ⟨e1, _, e2⟩ := hv
        subst e1
        subst e2
        obtain ⟨b, o, x, rfl, hbl, hx, k0⟩ := h3 k hlt
        have HT := hid (take_snoc' hx.out)
        obtain ⟨y, hy⟩ : ∃ y, hasP xs x = y := ⟨_, rfl⟩
        have HY := hid hy
        clear h3 hy
        go_wp2_with fail
        refine (impl_findPiece_c _ xs x _ (HP.out _ hb) HK.out).mono ?_
        rw [HY.out]
        rintro e w4 ⟨rfl, b4⟩
        have hown4 := hown.on b4
        have hol4 := hol.on b4
        have hb4 := bl_then hb b4
        clear b4 hown hb hol k0
        cases y
        · have HC := hid (show cntIn xs (ns.take (k + 1)) = cntIn xs (ns.take k) by rw [HT.out]; exact cnt_no _ HY.out)
          go_wp2
          go_roundw
          case rel => exact ⟨k + 1, by omega, by go_num, by rw [HC.out]; exact hown4, hol4, hb4⟩
          case measure => simp [intOf]; omega
        · obtain ⟨p, hp, hpx⟩ := has_at HK.out HY.out
          have HC := hid (show cntIn xs (ns.take (k + 1)) = (cntIn xs (ns.take k)).set (findAt xs x) ((((ns.take k).count x : Nat) : Int) + 1) by rw [HT.out]; exact cnt_yes _ HK.out HY.out)
          obtain ⟨i, hi⟩ : ∃ i, findAt xs x = i := ⟨_, rfl⟩
          rw [hi] at hp HC
          have hin : i < n := by have := (List.getElem?_eq_some_iff.1 hp).1; have := HN.out; omega
          have hcg := cnt_get (ns.take k) hp
          rw [hpx] at hcg
          obtain ⟨z, hz⟩ : ∃ z, (ns.take k).count x = z := ⟨_, rfl⟩
          have hz9 : z ≤ 120 := by have h1 := List.count_le_length (a := x) (l := ns.take k); rw [hz, List.length_take] at h1; omega
          rw [hz] at hcg HC
          have hR : w4.ownsRow w0.heap.size 3 1 (.slice (some ⟨w0.heap.size, 0, none⟩) n n) n ((cntIn xs (ns.take k)).flatMap encI) := by
            have := hown4
            unfold OwnI Own at this
            rw [cnt_len, HN.out] at this
            exact this
          have hd : w4.cell? ⟨w0.heap.size, i, none⟩ = some (.int .i64 z) := (hR.cellAt i (by omega)).trans (by have := flatMap_get (enc := encI) (fun _ => rfl) _ i 0 _ _ hcg rfl; simpa using this)
          have hf : w4.frozen? ⟨w0.heap.size, i, none⟩ = false := hR.frozenAt i
          have hst := hid (hR.stored i (.int .i64 ((z : Int) + 1)))
          have HI := hid hi
          clear hp hpx hcg hz hR hown4
          rw [hi]
          clear hi
          go_wp2
          go_roundw
          case rel => exact ⟨k + 1, by omega, by go_num, by
            have h1 := hst.out.1
            rw [set_flat, ← HC.out] at h1
            unfold OwnI Own
            rw [cnt_len, HN.out]
            exact h1, Own.far hol4 hst.out.2 (fun g hg => by simp at hg; omega), hb4.setCell (by omega) _⟩
          case measure => simp [intOf]; omega
      · have HA := hid (show cntIn xs (ns.take k) = countsOf xs by rw [HO.out, HNS.out, take_all HM.out (show m ≤ k by omega)])
        go_wp2
        go_ret
        exact ⟨_, rfl, by rw [← HA.out]; exact hown.less (by omega), hb⟩

end Go.Proofs.YtkfkcbceoekgjaaDoor
