/- Walks and plain facts, joined: EnE. -/
import Derived.Test.YtnaahincolooeaaGreatDoorMg17
import Derived.Test.YtnaahincolooeaaGreatDoorMg23
import Derived.Test.YtnaahincolooeaaGreatDoorMg28
set_option linter.unusedVariables false
set_option linter.unusedSimpArgs false

/- Walks: entries put and dropped, the program's way. -/
namespace Go.Proofs.YtnaahincolooeaaGreatDoor
open Go.RowKit

theorem putE_ins {xs : List Ent} {e : Ent} (h : isNm xs e.name (entAt xs e.name) = false) : putE xs e = xs.take (entAt xs e.name) ++ e :: xs.drop (entAt xs e.name) := by
  rw [putE_eq]; unfold behind; rw [h]; rfl
theorem putE_set {xs : List Ent} {e : Ent} (h : isNm xs e.name (entAt xs e.name) = true) : putE xs e = xs.set (entAt xs e.name) e := by
  obtain ⟨x, hx, _⟩ := isNm_iff.1 h
  have hlt := (List.getElem?_eq_some_iff.1 hx).1
  rw [putE_eq]; unfold behind; rw [h, if_pos rfl, List.set_eq_take_append_cons_drop, if_pos hlt]
theorem dropE_no {xs : List Ent} {nm : ByteArray} (h : isNm xs nm (entAt xs nm) = false) (ho : Asc xs) : dropE xs nm = xs := by
  unfold dropE
  rw [List.filter_eq_self]
  intro x hx
  simp only [Bool.not_eq_eq_eq_not, Bool.not_true, decide_eq_false_iff_not]
  intro hn
  rcases mem_parts.1 hx with h1 | h1 | ⟨_, h1⟩
  · have := front_lt h1; rw [hn, ltN_irr] at this; cases this
  · have := behind_gt ho h1; rw [hn, ltN_irr] at this; cases this
  · rw [isNm_iff.2 ⟨x, h1, hn⟩] at h; cases h
theorem dropE_at {xs : List Ent} {nm : ByteArray} (h : isNm xs nm (entAt xs nm) = true) (ho : Asc xs) : dropE xs nm = xs.take (entAt xs nm) ++ xs.drop (entAt xs nm + 1) := by
  have ho2 : Asc (dropE xs nm) := ho.filter _
  have ho3 : Asc (xs.take (entAt xs nm) ++ xs.drop (entAt xs nm + 1)) := by
    rw [← List.eraseIdx_eq_take_drop_succ]
    exact ho.sublist (List.eraseIdx_sublist _ _)
  refine ent_ext _ _ ho2 ho3 (fun x => ?_)
  have hb : behind xs nm = xs.drop (entAt xs nm + 1) := by unfold behind; rw [h, if_pos rfl]
  rw [dropE_mem, List.mem_append, ← hb]
  constructor
  · rintro ⟨hx, hn⟩
    rcases mem_parts.1 hx with h1 | h1 | ⟨h2, _⟩
    · exact .inl h1
    · exact .inr h1
    · exact absurd h2 hn
  · rintro (h1 | h1)
    · exact ⟨mem_parts.2 (.inl h1), fun hn => by have := front_lt h1; rw [hn, ltN_irr] at this; cases this⟩
    · exact ⟨mem_parts.2 (.inr (.inl h1)), fun hn => by have := behind_gt ho h1; rw [hn, ltN_irr] at this; cases this⟩
theorem drop_shorter {xs : List Ent} {nm : ByteArray} (ho : Asc xs) : decide ((dropE xs nm).length < xs.length) = isNm xs nm (entAt xs nm) := by
  cases h : isNm xs nm (entAt xs nm)
  · rw [dropE_no h ho]; simp
  · obtain ⟨x, hx, _⟩ := isNm_iff.1 h
    have hlt := (List.getElem?_eq_some_iff.1 hx).1
    rw [dropE_at h ho]
    simp only [List.length_append, List.length_take, List.length_drop, decide_eq_true_eq]
    omega

set_option maxHeartbeats 2000000 in
set_option maxRecDepth 100000 in
theorem impl_DropEntry_c (v : Value) (xs : List Ent) (nm : ByteArray) (w : World) (h : Ents w w.heap.size v xs) (ho : entsOk xs = true) :
    Calls Tryz.prog 57 #[v, .string nm] w fun en w' => ∃ v', en = .returned (.tuple #[v', .bool (dropEnt xs nm).2]) ∧ OwnE w' w.heap.size v' (dropE xs nm) ∧ Below w.heap.size w w' := by
  have HH := hid h
  have HO := hid ho
  have hl3 : xs.length ≤ 3 := (ents_in ho).1
  have HL := hid (show xs.length ≤ 1000000 by omega)
  obtain ⟨i, hi⟩ : ∃ i, entAt xs nm = i := ⟨_, rfl⟩
  obtain ⟨f, hf⟩ : ∃ f, isNm xs nm i = f := ⟨_, rfl⟩
  have HI := hid hi
  have HF := hid (show isNm xs nm (entAt xs nm) = f by rw [hi]; exact hf)
  have HD := hid (show (dropEnt xs nm).2 = f by unfold dropEnt; rw [if_pos ho]; simp only; rw [drop_shorter (ents_asc ho), hi, hf])
  rw [HD.out]
  clear h ho hi hf
  cases f
  · have HE := hid (show dropE xs nm = xs from dropE_no HF.out (ents_asc HO.out))
    rw [HE.out]
    go_enter Tryz.func57, Tryz.ntmps57
    go_wp2_with fail
    refine (impl_EntriesValid_c _ xs _ HH.out).mono ?_
    rw [HO.out]
    rintro e w1 ⟨rfl, b1⟩
    have s1 := b1.size
    go_wp2_with fail
    refine (cloneE_c _ xs _ (HH.out.on b1) HL.out).mono ?_
    rintro e w2 ⟨u, rfl, o2, b2⟩
    have d2 := bl_then b1 b2
    go_wp2_with fail
    refine (impl_findEntry_c _ xs nm _ (Rd.of_own o2) HO.out).mono ?_
    rw [HF.out]
    rintro e w3 ⟨rfl, b3⟩
    have d3 := bl_then d2 b3
    have o3 := o2.on b3
    clear o2 b1 b2 b3 d2
    go_wp2
    go_ret2
    exact ⟨_, rfl, o3.less s1, d3⟩
  · have HE := hid (show dropE xs nm = xs.take i ++ xs.drop (i + 1) by rw [dropE_at HF.out (ents_asc HO.out), HI.out])
    have HLT := hid (show i < xs.length by
      obtain ⟨x, hx, _⟩ := isNm_iff.1 HF.out
      have := (List.getElem?_eq_some_iff.1 hx).1
      rw [← HI.out]; exact this)
    have hi3 : i < 3 := Nat.lt_of_lt_of_le HLT.out hl3
    have hw1 : IntKind.i64.wrap ((i : Int) + 1) = (i : Int) + 1 := IntWalk.i64_in _ (by omega)
    rw [HE.out]
    go_enter Tryz.func57, Tryz.ntmps57
    go_wp2_with fail
    refine (impl_EntriesValid_c _ xs _ HH.out).mono ?_
    rw [HO.out]
    rintro e w1 ⟨rfl, b1⟩
    have s1 := b1.size
    go_wp2_with fail
    refine (cloneE_c _ xs _ (HH.out.on b1) HL.out).mono ?_
    rintro e w2 ⟨u, rfl, o2, b2⟩
    have d2 := bl_then b1 b2
    go_wp2_with fail
    refine (impl_findEntry_c _ xs nm _ (Rd.of_own o2) HO.out).mono ?_
    rw [HF.out, HI.out]
    rintro e w3 ⟨rfl, b3⟩
    have d3 := bl_then d2 b3
    have o3 := o2.on b3
    have hlt3 := hid o3.lt
    clear o2 b1 b2 b3 d2
    go_wp2_with fail
    refine (delE_c _ xs _ i _ o3 HLT.out HL.out).mono ?_
    rintro e w4 ⟨u', rfl, o4, g4⟩
    have d4 := d3.grown g4 d3.size (fun g hg => Nat.le_trans s1 (hlt3.out g hg).1)
    go_wp2
    go_ret2
    exact ⟨_, rfl, o4.less s1, d4⟩

theorem flatE_set (xs : List Ent) (i : Nat) (nm : ByteArray) (pr : Int) : (xs.set i ⟨nm, pr⟩).flatMap encE = ((xs.flatMap encE).set (i * 2) (.string nm)).set (i * 2 + 1) (.int .i64 pr) := by
  induction xs generalizing i with
  | nil => simp
  | cons x r ih =>
    cases i with
    | zero => simp [encE]
    | succ i =>
      rw [List.set_cons_succ, List.flatMap_cons, List.flatMap_cons, ih, show (i + 1) * 2 = i * 2 + 2 by omega]
      simp [encE]

set_option maxHeartbeats 2000000 in
set_option maxRecDepth 100000 in
theorem impl_PutEntry_c (v : Value) (xs : List Ent) (e : Ent) (w : World) (h : Ents w w.heap.size v xs) (hsz : e.name.size ≤ 1048576) :
    Calls Tryz.prog 116 #[v, .agg #[.string e.name, .int .i64 e.print]] w fun en w' => ∃ v', en = .returned (.tuple #[v', .bool (putEnt xs e).2]) ∧ OwnE w' w.heap.size v' (putEnt xs e).1 ∧ Below w.heap.size w w' := by
  obtain ⟨nm, pr⟩ := e
  obtain ⟨W1, hW1⟩ : ∃ W1, W1 = w.alloc (.cells #[.string nm, .int .i64 pr] 91) := ⟨_, rfl⟩
  have hb1 : Below w.heap.size w W1 := by rw [hW1]; exact (Below.refl _ _).alloc (Nat.le_refl _) _
  have hbox : W1.heap[w.heap.size]? = some (.cells #[.string nm, .int .i64 pr] 91 (0, 0)) := by rw [hW1]; exact heap_alloc_new _ _
  obtain ⟨x0, x1, _, _⟩ := two_cells_of hbox
  have hx0b : w.heap.size < W1.heap.size := (Array.getElem?_eq_some_iff.1 hbox).1
  have HH := hid h
  have HB1 := hid hb1
  cases ho : entsOk xs
  · have HP := hid (show putEnt xs ⟨nm, pr⟩ = ([], false) by unfold putEnt; rw [ho]; rfl)
    have HO := hid ho
    rw [HP.out]
    clear ho h
    go_enter Tryz.func116, Tryz.ntmps116
    go_wp2_with fail
    rw [← hW1]
    refine (impl_EntriesValid_c _ xs _ (HH.out.on HB1.out)).mono ?_
    rw [HO.out]
    rintro e w1 ⟨rfl, b1⟩
    have d1 := bl_then HB1.out b1
    clear hW1
    go_wp2
    go_ret2
    exact ⟨_, rfl, Own.nil_, d1⟩
  have HO := hid ho
  have hl3 : xs.length ≤ 3 := (ents_in ho).1
  have HL := hid (show xs.length ≤ 1000000 by omega)
  obtain ⟨i, hi⟩ : ∃ i, entAt xs nm = i := ⟨_, rfl⟩
  obtain ⟨f, hf⟩ : ∃ f, isNm xs nm i = f := ⟨_, rfl⟩
  have HI := hid hi
  have HF := hid (show isNm xs nm (entAt xs nm) = f by rw [hi]; exact hf)
  obtain ⟨ok, hok⟩ : ∃ ok, entsOk (putE xs ⟨nm, pr⟩) = ok := ⟨_, rfl⟩
  have HOK := hid hok
  have HP := hid (show putEnt xs ⟨nm, pr⟩ = if ok then (putE xs ⟨nm, pr⟩, true) else (xs, false) by unfold putEnt; rw [if_pos ho, hok])
  rw [HP.out]
  clear ho h hi hf hok
  go_enter Tryz.func116, Tryz.ntmps116
  go_wp2_with fail
  rw [← hW1]
  refine (impl_EntriesValid_c _ xs _ (HH.out.on HB1.out)).mono ?_
  rw [HO.out]
  rintro e w1 ⟨rfl, b1⟩
  have d1 := bl_then HB1.out b1
  have s1 := d1.size
  go_wp2_with fail
  refine (cloneE_c _ xs _ (HH.out.on d1) HL.out).mono ?_
  rintro e w2 ⟨u, rfl, o2, b2⟩
  have d2 := bl_then d1 b2
  have d12 := bl_then b1 b2
  have hs12 := b2.size
  have y0 := (d12.cell (p := ⟨w.heap.size, 0, none⟩) hx0b).trans x0
  have y1 := (d12.cell (p := ⟨w.heap.size, 1, none⟩) hx0b).trans x1
  clear hW1
  go_wp2_with fail
  refine (impl_findEntry_c _ xs nm _ (Rd.of_own o2) HO.out).mono ?_
  rw [HF.out, HI.out]
  rintro e w3 ⟨rfl, b3⟩
  have d3 := bl_then d2 b3
  have o3 := o2.on b3
  have z0 := (b3.cell (p := ⟨w.heap.size, 0, none⟩) (Nat.lt_of_lt_of_le hx0b d12.size)).trans y0
  have z1 := (b3.cell (p := ⟨w.heap.size, 1, none⟩) (Nat.lt_of_lt_of_le hx0b d12.size)).trans y1
  have hlt3 := hid o3.lt
  have s3 := d3.size
  have HSZ := hid (Nat.le_trans hs12 b3.size)
  clear b1 b2 b3 d2 d12 o2 y0 y1 x0 x1
  cases f
  · have HE := hid (show putE xs ⟨nm, pr⟩ = xs.take i ++ ⟨nm, pr⟩ :: xs.drop i by rw [putE_ins HF.out, HI.out])
    have HLE := hid (show i ≤ xs.length by rw [← HI.out]; exact entAt_le _ _)
    obtain ⟨W4, hW4⟩ : ∃ W4, W4 = w3.alloc (.cells #[.string nm, .int .i64 pr] 91) := ⟨_, rfl⟩
    have o4 : OwnE W4 w1.heap.size u xs := by rw [hW4]; exact o3.alloc _
    have hv4 : W4.heap[w3.heap.size]? = some (.cells #[.string nm, .int .i64 pr] 91 (0, 0)) := by rw [hW4]; exact heap_alloc_new _ _
    have d4 : Below w.heap.size w W4 := by rw [hW4]; exact d3.alloc d3.size _
    have s4 : w1.heap.size ≤ W4.heap.size := by
      have h1 := (Array.getElem?_eq_some_iff.1 hv4).1
      have h2 := d3.size
      have h3 : w1.heap.size ≤ w3.heap.size := HSZ.out
      omega
    go_wp2_with fail
    rw [← hW4]
    refine (insE_c u xs w1.heap.size i w3.heap.size pr nm W4 o4 HLE.out s4 hv4 (fun e => by have := (hlt3.out _ e).2; omega) HL.out).mono ?_
    rintro e w5 ⟨u5, rfl, o5, g5⟩
    have d5 := d4.grown g5 d4.size (fun g hg => Nat.le_trans s1 (hlt3.out g hg).1)
    rw [← HE.out] at o5
    clear o4 g5 hW4 hv4
    go_wp2_with fail
    refine (impl_EntriesValid_c _ (putE xs ⟨nm, pr⟩) _ (Rd.of_own o5)).mono ?_
    rw [HOK.out]
    rintro e w6 ⟨rfl, b6⟩
    have d6 := bl_then d5 b6
    have o6 := o5.on b6
    clear b6 o5 d5
    cases ok
    · go_wp2_with fail
      refine (cloneE_c _ xs _ (HH.out.on d6) HL.out).mono ?_
      rintro e w7 ⟨u7, rfl, o7, b7⟩
      have d7 := bl_then d6 b7
      have s6 := d6.size
      go_wp2
      go_ret2
      exact ⟨_, rfl, o7.less s6, d7⟩
    · go_wp2
      go_ret2
      exact ⟨_, rfl, o6.less s1, d6⟩
  · have HE := hid (show putE xs ⟨nm, pr⟩ = xs.set i ⟨nm, pr⟩ by rw [putE_set HF.out, HI.out])
    have HLT := hid (show i < xs.length by
      obtain ⟨x, hx, _⟩ := isNm_iff.1 HF.out
      have := (List.getElem?_eq_some_iff.1 hx).1
      rw [← HI.out]; exact this)
    rcases o3.2 with ⟨_, h0⟩ | ⟨g, cap, cur, hv, hbg, hgh, hnc, hcm, hcs, hct⟩
    · have := HLT.out; omega
    subst hv
    obtain ⟨n, hn⟩ : ∃ n, xs.length = n := ⟨_, rfl⟩
    rw [hn] at hnc
    have hi' : i < n := by rw [← hn]; exact HLT.out
    obtain ⟨a0, hc0⟩ : ∃ a0, w3.cell? ⟨g, i * 2, none⟩ = some a0 := Option.isSome_iff_exists.1 (by simp only [World.cell?, hgh]; simp; omega)
    have hg1 : (w3.setCell ⟨g, i * 2, none⟩ (.string nm)).heap[g]? = some (.cells (cur.setIfInBounds (i * 2) (.string nm)) 91 (0, 0)) := setCell_heap hgh
    obtain ⟨a1, hc1⟩ : ∃ a1, (w3.setCell ⟨g, i * 2, none⟩ (.string nm)).cell? ⟨g, i * 2 + 1, none⟩ = some a1 := Option.isSome_iff_exists.1 (by simp only [World.cell?, hg1]; simp; omega)
    have hf0 : w3.frozen? ⟨g, i * 2, none⟩ = false := frozen_of_row _ _ _ _ _ hgh
    have hf1 : (w3.setCell ⟨g, i * 2, none⟩ (.string nm)).frozen? ⟨g, i * 2 + 1, none⟩ = false := frozen_of_row _ _ _ _ _ hg1
    obtain ⟨W4, hW4⟩ : ∃ W4, W4 = (w3.setCell ⟨g, i * 2, none⟩ (.string nm)).setCell ⟨g, i * 2 + 1, none⟩ (.int .i64 pr) := ⟨_, rfl⟩
    rw [hn] at o3 ⊢
    have st1 := World.ownsRow.stored (show w3.ownsRow w1.heap.size 91 2 (.slice (some ⟨g, 0, none⟩) n cap) n (xs.flatMap encE) by have h := o3; unfold OwnE Own at h; rw [hn] at h; exact h) (i * 2) (.string nm)
    have st2 := World.ownsRow.stored st1.1 (i * 2 + 1) (.int .i64 pr)
    have hgr : w3.grownBy W4 (some g) := by rw [hW4]; exact st1.2.trans st2.2
    have o4 : OwnE W4 w1.heap.size (.slice (some ⟨g, 0, none⟩) n cap) (xs.set i ⟨nm, pr⟩) := by
      unfold OwnE Own
      rw [List.length_set, hn, flatE_set, hW4]
      exact st2.1
    clear st1 st2
    rw [← HE.out] at o4
    have d4 := d3.grown hgr d3.size (fun b hb => by simp at hb; omega)
    have s4 := d4.size
    have hn4 : (putE xs ⟨nm, pr⟩).length = n := by rw [HE.out, List.length_set, hn]
    clear hgr hg1 hgh hcm hcs hct hlt3 o3 hbg
    go_wp2_with fail
    rw [← hW4]
    refine (impl_EntriesValid_c _ (putE xs ⟨nm, pr⟩) _ (Rd.of_own o4)).mono ?_
    rw [HOK.out]
    rintro e w6 ⟨rfl, b6⟩
    have d6 := bl_then d4 b6
    have o6 := o4.on b6
    clear b6 o4 d4
    cases ok
    · go_wp2_with fail
      refine (cloneE_c _ xs _ (HH.out.on d6) HL.out).mono ?_
      rintro e w7 ⟨u7, rfl, o7, b7⟩
      have d7 := bl_then d6 b7
      have s6 := d6.size
      go_wp2
      go_ret2
      exact ⟨_, rfl, o7.less s6, d7⟩
    · go_wp2
      go_ret2
      exact ⟨_, rfl, o6.less s1, d6⟩

end Go.Proofs.YtnaahincolooeaaGreatDoor
