/- Walks and plain facts, joined: EnE, WrP. -/
import Derived.Test.YtachfmlfmpaddaaGreatDoorMg16
import Derived.Test.YtachfmlfmpaddaaGreatDoorMg19
import Derived.Test.YtachfmlfmpaddaaGreatDoorMg28
import Derived.Test.YtachfmlfmpaddaaGreatDoorMg30
set_option linter.unusedVariables false
set_option linter.unusedSimpArgs false

/- Walks: entries put and dropped, the program's way. -/
namespace Go.Proofs.YtachfmlfmpaddaaGreatDoor
open Go.RowKit

theorem putE_ins {xs : List Ent} {e : Ent} (h : isNm xs e.name (entAt xs e.name) = false) : putE xs e = xs.take (entAt xs e.name) ++ e :: xs.drop (entAt xs e.name) := by
  rw [putE_eq]; unfold behind; rw [h]; rfl
theorem putE_set {xs : List Ent} {e : Ent} (h : isNm xs e.name (entAt xs e.name) = true) : putE xs e = xs.set (entAt xs e.name) e := by
  obtain ⟨x, hx, _⟩ := isNm_iff.1 h
  have hlt := (List.getElem?_eq_some_iff.1 hx).1
  rw [putE_eq]; unfold behind; rw [h, if_pos rfl, List.set_eq_take_append_cons_drop, if_pos hlt]
theorem dropE_no {xs : List Ent} {nm : ByteArray} (h : isNm xs nm (entAt xs nm) = false) (ho : Asc xs) : dropE xs nm = xs := by
  unfold dropE
  rw [List.filter_eq_self]
  intro x hx
  simp only [Bool.not_eq_eq_eq_not, Bool.not_true, decide_eq_false_iff_not]
  intro hn
  rcases mem_parts.1 hx with h1 | h1 | ⟨_, h1⟩
  · have := front_lt h1; rw [hn, ltN_irr] at this; cases this
  · have := behind_gt ho h1; rw [hn, ltN_irr] at this; cases this
  · rw [isNm_iff.2 ⟨x, h1, hn⟩] at h; cases h
theorem dropE_at {xs : List Ent} {nm : ByteArray} (h : isNm xs nm (entAt xs nm) = true) (ho : Asc xs) : dropE xs nm = xs.take (entAt xs nm) ++ xs.drop (entAt xs nm + 1) := by
  have ho2 : Asc (dropE xs nm) := ho.filter _
  have ho3 : Asc (xs.take (entAt xs nm) ++ xs.drop (entAt xs nm + 1)) := by
    rw [← List.eraseIdx_eq_take_drop_succ]
    exact ho.sublist (List.eraseIdx_sublist _ _)
  refine ent_ext _ _ ho2 ho3 (fun x => ?_)
  have hb : behind xs nm = xs.drop (entAt xs nm + 1) := by unfold behind; rw [h, if_pos rfl]
  rw [dropE_mem, List.mem_append, ← hb]
  constructor
  · rintro ⟨hx, hn⟩
    rcases mem_parts.1 hx with h1 | h1 | ⟨h2, _⟩
    · exact .inl h1
    · exact .inr h1
    · exact absurd h2 hn
  · rintro (h1 | h1)
    · exact ⟨mem_parts.2 (.inl h1), fun hn => by have := front_lt h1; rw [hn, ltN_irr] at this; cases this⟩
    · exact ⟨mem_parts.2 (.inr (.inl h1)), fun hn => by have := behind_gt ho h1; rw [hn, ltN_irr] at this; cases this⟩
theorem drop_shorter {xs : List Ent} {nm : ByteArray} (ho : Asc xs) : decide ((dropE xs nm).length < xs.length) = isNm xs nm (entAt xs nm) := by
  cases h : isNm xs nm (entAt xs nm)
  · rw [dropE_no h ho]; simp
  · obtain ⟨x, hx, _⟩ := isNm_iff.1 h
    have hlt := (List.getElem?_eq_some_iff.1 hx).1
    rw [dropE_at h ho]
    simp only [List.length_append, List.length_take, List.length_drop, decide_eq_true_eq]
    omega

set_option maxHeartbeats 2000000 in
set_option maxRecDepth 100000 in
theorem impl_DropEntry_c (v : Value) (xs : List Ent) (nm : ByteArray) (w : World) (h : Ents w w.heap.size v xs) (ho : entsOk xs = true) :
    Calls Tryz.prog 94 #[v, .string nm] w fun en w' => ∃ v', en = .returned (.tuple #[v', .bool (dropEnt xs nm).2]) ∧ OwnE w' w.heap.size v' (dropE xs nm) ∧ Below w.heap.size w w' := by
  have HH := hid h
  have HO := hid ho
  have hl3 : xs.length ≤ 3 := (ents_in ho).1
  have HL := hid (show xs.length ≤ 1000000 by omega)
  obtain ⟨i, hi⟩ : ∃ i, entAt xs nm = i := ⟨_, rfl⟩
  obtain ⟨f, hf⟩ : ∃ f, isNm xs nm i = f := ⟨_, rfl⟩
  have HI := hid hi
  have HF := hid (show isNm xs nm (entAt xs nm) = f by rw [hi]; exact hf)
  have HD := hid (show (dropEnt xs nm).2 = f by unfold dropEnt; rw [if_pos ho]; simp only; rw [drop_shorter (ents_asc ho), hi, hf])
  rw [HD.out]
  clear h ho hi hf
  cases f
  · have HE := hid (show dropE xs nm = xs from dropE_no HF.out (ents_asc HO.out))
    rw [HE.out]
    go_enter Tryz.func94, Tryz.ntmps94
    go_wp2_with fail
    refine (impl_EntriesValid_c _ xs _ HH.out).mono ?_
    rw [HO.out]
    rintro e w1 ⟨rfl, b1⟩
    have s1 := b1.size
    go_wp2_with fail
    refine (cloneE_c _ xs _ (HH.out.on b1) HL.out).mono ?_
    rintro e w2 ⟨u, rfl, o2, b2⟩
    have d2 := bl_then b1 b2
    go_wp2_with fail
    refine (impl_findEntry_c _ xs nm _ (Rd.of_own o2) HO.out).mono ?_
    rw [HF.out]
    rintro e w3 ⟨rfl, b3⟩
    have d3 := bl_then d2 b3
    have o3 := o2.on b3
    clear o2 b1 b2 b3 d2
    go_wp2
    go_ret2
    exact ⟨_, rfl, o3.less s1, d3⟩
  · have HE := hid (show dropE xs nm = xs.take i ++ xs.drop (i + 1) by rw [dropE_at HF.out (ents_asc HO.out), HI.out])
    have HLT := hid (show i < xs.length by
      obtain ⟨x, hx, _⟩ := isNm_iff.1 HF.out
      have := (List.getElem?_eq_some_iff.1 hx).1
      rw [← HI.out]; exact this)
    have hi3 : i < 3 := Nat.lt_of_lt_of_le HLT.out hl3
    have hw1 : IntKind.i64.wrap ((i : Int) + 1) = (i : Int) + 1 := IntWalk.i64_in _ (by omega)
    rw [HE.out]
    go_enter Tryz.func94, Tryz.ntmps94
    go_wp2_with fail
    refine (impl_EntriesValid_c _ xs _ HH.out).mono ?_
    rw [HO.out]
    rintro e w1 ⟨rfl, b1⟩
    have s1 := b1.size
    go_wp2_with fail
    refine (cloneE_c _ xs _ (HH.out.on b1) HL.out).mono ?_
    rintro e w2 ⟨u, rfl, o2, b2⟩
    have d2 := bl_then b1 b2
    go_wp2_with fail
    refine (impl_findEntry_c _ xs nm _ (Rd.of_own o2) HO.out).mono ?_
    rw [HF.out, HI.out]
    rintro e w3 ⟨rfl, b3⟩
    have d3 := bl_then d2 b3
    have o3 := o2.on b3
    have hlt3 := hid o3.lt
    clear o2 b1 b2 b3 d2
    go_wp2_with fail
    refine (delE_c _ xs _ i _ o3 HLT.out HL.out).mono ?_
    rintro e w4 ⟨u', rfl, o4, g4⟩
    have d4 := d3.grown g4 d3.size (fun g hg => Nat.le_trans s1 (hlt3.out g hg).1)
    go_wp2
    go_ret2
    exact ⟨_, rfl, o4.less s1, d4⟩

theorem flatE_set (xs : List Ent) (i : Nat) (nm : ByteArray) (pr : Int) : (xs.set i ⟨nm, pr⟩).flatMap encE = ((xs.flatMap encE).set (i * 2) (.string nm)).set (i * 2 + 1) (.int .i64 pr) := by
  induction xs generalizing i with
  | nil => simp
  | cons x r ih =>
    cases i with
    | zero => simp [encE]
    | succ i =>
      rw [List.set_cons_succ, List.flatMap_cons, List.flatMap_cons, ih, show (i + 1) * 2 = i * 2 + 2 by omega]
      simp [encE]

set_option maxHeartbeats 2000000 in
set_option maxRecDepth 100000 in
theorem impl_PutEntry_c (v : Value) (xs : List Ent) (e : Ent) (w : World) (h : Ents w w.heap.size v xs) (hsz : e.name.size ≤ 1048576) :
    Calls Tryz.prog 152 #[v, .agg #[.string e.name, .int .i64 e.print]] w fun en w' => ∃ v', en = .returned (.tuple #[v', .bool (putEnt xs e).2]) ∧ OwnE w' w.heap.size v' (putEnt xs e).1 ∧ Below w.heap.size w w' := by
  obtain ⟨nm, pr⟩ := e
  obtain ⟨W1, hW1⟩ : ∃ W1, W1 = w.alloc (.cells #[.string nm, .int .i64 pr] 81) := ⟨_, rfl⟩
  have hb1 : Below w.heap.size w W1 := by rw [hW1]; exact (Below.refl _ _).alloc (Nat.le_refl _) _
  have hbox : W1.heap[w.heap.size]? = some (.cells #[.string nm, .int .i64 pr] 81 (0, 0)) := by rw [hW1]; exact heap_alloc_new _ _
  obtain ⟨x0, x1, _, _⟩ := two_cells_of hbox
  have hx0b : w.heap.size < W1.heap.size := (Array.getElem?_eq_some_iff.1 hbox).1
  have HH := hid h
  have HB1 := hid hb1
  cases ho : entsOk xs
  · have HP := hid (show putEnt xs ⟨nm, pr⟩ = ([], false) by unfold putEnt; rw [ho]; rfl)
    have HO := hid ho
    rw [HP.out]
    clear ho h
    go_enter Tryz.func152, Tryz.ntmps152
    go_wp2_with fail
    rw [← hW1]
    refine (impl_EntriesValid_c _ xs _ (HH.out.on HB1.out)).mono ?_
    rw [HO.out]
    rintro e w1 ⟨rfl, b1⟩
    have d1 := bl_then HB1.out b1
    clear hW1
    go_wp2
    go_ret2
    exact ⟨_, rfl, Own.nil_, d1⟩
  have HO := hid ho
  have hl3 : xs.length ≤ 3 := (ents_in ho).1
  have HL := hid (show xs.length ≤ 1000000 by omega)
  obtain ⟨i, hi⟩ : ∃ i, entAt xs nm = i := ⟨_, rfl⟩
  obtain ⟨f, hf⟩ : ∃ f, isNm xs nm i = f := ⟨_, rfl⟩
  have HI := hid hi
  have HF := hid (show isNm xs nm (entAt xs nm) = f by rw [hi]; exact hf)
  obtain ⟨ok, hok⟩ : ∃ ok, entsOk (putE xs ⟨nm, pr⟩) = ok := ⟨_, rfl⟩
  have HOK := hid hok
  have HP := hid (show putEnt xs ⟨nm, pr⟩ = if ok then (putE xs ⟨nm, pr⟩, true) else (xs, false) by unfold putEnt; rw [if_pos ho, hok])
  rw [HP.out]
  clear ho h hi hf hok
  go_enter Tryz.func152, Tryz.ntmps152
  go_wp2_with fail
  rw [← hW1]
  refine (impl_EntriesValid_c _ xs _ (HH.out.on HB1.out)).mono ?_
  rw [HO.out]
  rintro e w1 ⟨rfl, b1⟩
  have d1 := bl_then HB1.out b1
  have s1 := d1.size
  go_wp2_with fail
  refine (cloneE_c _ xs _ (HH.out.on d1) HL.out).mono ?_
  rintro e w2 ⟨u, rfl, o2, b2⟩
  have d2 := bl_then d1 b2
  have d12 := bl_then b1 b2
  have hs12 := b2.size
  have y0 := (d12.cell (p := ⟨w.heap.size, 0, none⟩) hx0b).trans x0
  have y1 := (d12.cell (p := ⟨w.heap.size, 1, none⟩) hx0b).trans x1
  clear hW1
  go_wp2_with fail
  refine (impl_findEntry_c _ xs nm _ (Rd.of_own o2) HO.out).mono ?_
  rw [HF.out, HI.out]
  rintro e w3 ⟨rfl, b3⟩
  have d3 := bl_then d2 b3
  have o3 := o2.on b3
  have z0 := (b3.cell (p := ⟨w.heap.size, 0, none⟩) (Nat.lt_of_lt_of_le hx0b d12.size)).trans y0
  have z1 := (b3.cell (p := ⟨w.heap.size, 1, none⟩) (Nat.lt_of_lt_of_le hx0b d12.size)).trans y1
  have hlt3 := hid o3.lt
  have s3 := d3.size
  have HSZ := hid (Nat.le_trans hs12 b3.size)
  clear b1 b2 b3 d2 d12 o2 y0 y1 x0 x1
  cases f
  · have HE := hid (show putE xs ⟨nm, pr⟩ = xs.take i ++ ⟨nm, pr⟩ :: xs.drop i by rw [putE_ins HF.out, HI.out])
    have HLE := hid (show i ≤ xs.length by rw [← HI.out]; exact entAt_le _ _)
    obtain ⟨W4, hW4⟩ : ∃ W4, W4 = w3.alloc (.cells #[.string nm, .int .i64 pr] 81) := ⟨_, rfl⟩
    have o4 : OwnE W4 w1.heap.size u xs := by rw [hW4]; exact o3.alloc _
    have hv4 : W4.heap[w3.heap.size]? = some (.cells #[.string nm, .int .i64 pr] 81 (0, 0)) := by rw [hW4]; exact heap_alloc_new _ _
    have d4 : Below w.heap.size w W4 := by rw [hW4]; exact d3.alloc d3.size _
    have s4 : w1.heap.size ≤ W4.heap.size := by
      have h1 := (Array.getElem?_eq_some_iff.1 hv4).1
      have h2 := d3.size
      have h3 : w1.heap.size ≤ w3.heap.size := HSZ.out
      omega
    go_wp2_with fail
    rw [← hW4]
    refine (insE_c u xs w1.heap.size i w3.heap.size pr nm W4 o4 HLE.out s4 hv4 (fun e => by have := (hlt3.out _ e).2; omega) HL.out).mono ?_
    rintro e w5 ⟨u5, rfl, o5, g5⟩
    have d5 := d4.grown g5 d4.size (fun g hg => Nat.le_trans s1 (hlt3.out g hg).1)
    rw [← HE.out] at o5
    clear o4 g5 hW4 hv4
    go_wp2_with fail
    refine (impl_EntriesValid_c _ (putE xs ⟨nm, pr⟩) _ (Rd.of_own o5)).mono ?_
    rw [HOK.out]
    rintro e w6 ⟨rfl, b6⟩
    have d6 := bl_then d5 b6
    have o6 := o5.on b6
    clear b6 o5 d5
    cases ok
    · go_wp2_with fail
      refine (cloneE_c _ xs _ (HH.out.on d6) HL.out).mono ?_
      rintro e w7 ⟨u7, rfl, o7, b7⟩
      have d7 := bl_then d6 b7
      have s6 := d6.size
      go_wp2
      go_ret2
      exact ⟨_, rfl, o7.less s6, d7⟩
    · go_wp2
      go_ret2
      exact ⟨_, rfl, o6.less s1, d6⟩
  · have HE := hid (show putE xs ⟨nm, pr⟩ = xs.set i ⟨nm, pr⟩ by rw [putE_set HF.out, HI.out])
    have HLT := hid (show i < xs.length by
      obtain ⟨x, hx, _⟩ := isNm_iff.1 HF.out
      have := (List.getElem?_eq_some_iff.1 hx).1
      rw [← HI.out]; exact this)
    rcases o3.2 with ⟨_, h0⟩ | ⟨g, cap, cur, hv, hbg, hgh, hnc, hcm, hcs, hct⟩
    · have := HLT.out; omega
    subst hv
    obtain ⟨n, hn⟩ : ∃ n, xs.length = n := ⟨_, rfl⟩
    rw [hn] at hnc
    have hi' : i < n := by rw [← hn]; exact HLT.out
    obtain ⟨a0, hc0⟩ : ∃ a0, w3.cell? ⟨g, i * 2, none⟩ = some a0 := Option.isSome_iff_exists.1 (by simp only [World.cell?, hgh]; simp; omega)
    have hg1 : (w3.setCell ⟨g, i * 2, none⟩ (.string nm)).heap[g]? = some (.cells (cur.setIfInBounds (i * 2) (.string nm)) 81 (0, 0)) := setCell_heap hgh
    obtain ⟨a1, hc1⟩ : ∃ a1, (w3.setCell ⟨g, i * 2, none⟩ (.string nm)).cell? ⟨g, i * 2 + 1, none⟩ = some a1 := Option.isSome_iff_exists.1 (by simp only [World.cell?, hg1]; simp; omega)
    have hf0 : w3.frozen? ⟨g, i * 2, none⟩ = false := frozen_of_row _ _ _ _ _ hgh
    have hf1 : (w3.setCell ⟨g, i * 2, none⟩ (.string nm)).frozen? ⟨g, i * 2 + 1, none⟩ = false := frozen_of_row _ _ _ _ _ hg1
    obtain ⟨W4, hW4⟩ : ∃ W4, W4 = (w3.setCell ⟨g, i * 2, none⟩ (.string nm)).setCell ⟨g, i * 2 + 1, none⟩ (.int .i64 pr) := ⟨_, rfl⟩
    rw [hn] at o3 ⊢
    have st1 := World.ownsRow.stored (show w3.ownsRow w1.heap.size 81 2 (.slice (some ⟨g, 0, none⟩) n cap) n (xs.flatMap encE) by have h := o3; unfold OwnE Own at h; rw [hn] at h; exact h) (i * 2) (.string nm)
    have st2 := World.ownsRow.stored st1.1 (i * 2 + 1) (.int .i64 pr)
    have hgr : w3.grownBy W4 (some g) := by rw [hW4]; exact st1.2.trans st2.2
    have o4 : OwnE W4 w1.heap.size (.slice (some ⟨g, 0, none⟩) n cap) (xs.set i ⟨nm, pr⟩) := by
      unfold OwnE Own
      rw [List.length_set, hn, flatE_set, hW4]
      exact st2.1
    clear st1 st2
    rw [← HE.out] at o4
    have d4 := d3.grown hgr d3.size (fun b hb => by simp at hb; omega)
    have s4 := d4.size
    have hn4 : (putE xs ⟨nm, pr⟩).length = n := by rw [HE.out, List.length_set, hn]
    clear hgr hg1 hgh hcm hcs hct hlt3 o3 hbg
    go_wp2_with fail
    rw [← hW4]
    refine (impl_EntriesValid_c _ (putE xs ⟨nm, pr⟩) _ (Rd.of_own o4)).mono ?_
    rw [HOK.out]
    rintro e w6 ⟨rfl, b6⟩
    have d6 := bl_then d4 b6
    have o6 := o4.on b6
    clear b6 o4 d4
    cases ok
    · go_wp2_with fail
      refine (cloneE_c _ xs _ (HH.out.on d6) HL.out).mono ?_
      rintro e w7 ⟨u7, rfl, o7, b7⟩
      have d7 := bl_then d6 b7
      have s6 := d6.size
      go_wp2
      go_ret2
      exact ⟨_, rfl, o7.less s6, d7⟩
    · go_wp2
      go_ret2
      exact ⟨_, rfl, o6.less s1, d6⟩

end Go.Proofs.YtachfmlfmpaddaaGreatDoor

/- What the laws on writes and drops say, in plain Lean. No program in sight. -/
namespace Go.Proofs.YtachfmlfmpaddaaGreatDoor
open Go.RowKit

/-- All these texts are in a store. -/
def HasT (x : List Pc) (T : List ByteArray) : Prop := ∀ t ∈ T, getP x (printOf (bs t)) = some t
theorem HasT.app {x : List Pc} {T : List ByteArray} {t : ByteArray} (h : HasT x (T ++ [t])) : HasT x T ∧ getP x (printOf (bs t)) = some t := ⟨fun u hu => h u (by simp [hu]), h t (by simp)⟩
theorem folder_put {x : List Pc} {es : List Ent} (ho : entsOk es = true) (h : getP x (printOf (bs (strL (folderText es)))) = some (strL (folderText es))) : folderAt x (printOf (folderText es)) = some es := by
  rw [bs_strL] at h
  unfold folderAt
  rw [h]
  simp only [Option.bind_some]
  rw [bs_strL]
  exact readFolder_self ho

/-! ### FnWriteAt -/
theorem way_cons {s : List Pc} {q : Option Int} {nm : ByteArray} {r : List ByteArray} {F : List (List Ent)} {z : Option Int} (h : wayW s q (nm :: r) = some (F, z)) : ∃ es F0, folderQ s q = some es ∧ F = es :: F0 ∧ wayW s (firstOf es nm) r = some (F0, z) := by
  unfold wayW at h
  split at h
  · cases h
  · rename_i es hes
    split at h
    · cases h
    · rename_i F' z' hw
      simp only [Option.some.injEq, Prod.mk.injEq] at h
      obtain ⟨rfl, rfl⟩ := h
      exact ⟨es, F', hes, rfl, hw⟩
theorem up_cons' {es : List Ent} {nm : ByteArray} {r : List (List Ent × ByteArray)} {leaf p : Int} {T : List ByteArray} (h : upT ((es, nm) :: r) leaf = some (T, p)) : ∃ T0 ch, upT r leaf = some (T0, ch) ∧ entsOk es = true ∧ entsOk (putE es ⟨nm, ch⟩) = true ∧ T = T0 ++ [strL (folderText (putE es ⟨nm, ch⟩))] ∧ p = printOf (folderText (putE es ⟨nm, ch⟩)) := by
  unfold upT at h
  split at h
  · cases h
  · rename_i T0 ch hu
    split at h
    · rename_i hp
      obtain ⟨e1, e2, e3⟩ := putEnt_ok hp
      simp only [Option.some.injEq, Prod.mk.injEq] at h
      rw [e3] at h
      exact ⟨T0, ch, hu, e1, e2, h.1.symm, h.2.symm⟩
    · cases h
theorem up_mk {es : List Ent} {nm : ByteArray} {r : List (List Ent × ByteArray)} {leaf ch : Int} {T0 : List ByteArray} (hu : upT r leaf = some (T0, ch)) (h1 : entsOk es = true) (h2 : entsOk (putE es ⟨nm, ch⟩) = true) : upT ((es, nm) :: r) leaf = some (T0 ++ [strL (folderText (putE es ⟨nm, ch⟩))], printOf (folderText (putE es ⟨nm, ch⟩))) := by
  unfold upT
  rw [hu]
  simp only []
  rw [putEnt_on h1 h2, if_pos rfl]
/-- What was put leads to the leaf, and is put the same way again. -/
theorem up_again {s x : List Pc} {leaf : Int} (hlf : hasP x leaf = true) : ∀ (ws : List ByteArray) (q : Option Int) (F : List (List Ent)) (z : Option Int) (T : List ByteArray) (p : Int), wayW s q ws = some (F, z) → upT (F.zip ws) leaf = some (T, p) → HasT x T →
    walkAt x p ws = (leaf, true) ∧ ∃ F', wayW x (some p) ws = some (F', some leaf) ∧ upT (F'.zip ws) leaf = some (T, p)
  | [], q, F, z, T, p, hw, hu, _ => by
    simp only [List.zip_nil_right, upT, Option.some.injEq, Prod.mk.injEq] at hu
    obtain ⟨rfl, rfl⟩ := hu
    refine ⟨by unfold walkAt; rw [if_pos hlf], [], rfl, rfl⟩
  | nm :: r, q, F, z, T, p, hw, hu, hT => by
    obtain ⟨es, F0, hes, rfl, hw0⟩ := way_cons hw
    rw [List.zip_cons_cons] at hu
    obtain ⟨T0, ch, hu0, h1, h2, rfl, rfl⟩ := up_cons' hu
    obtain ⟨hT0, hTt⟩ := hT.app
    obtain ⟨i1, F', i2, i3⟩ := up_again hlf r _ F0 z T0 ch hw0 hu0 hT0
    have hf := folder_put h2 hTt
    have hq := putE_first h2
    simp only [] at hq
    refine ⟨?_, putE es ⟨nm, ch⟩ :: F', ?_, ?_⟩
    · rw [walk_some (by rw [entsOf_at, hf]; exact hq)]
      exact i1
    · unfold wayW
      simp only [folderQ, hf, hq, i2]
    · rw [List.zip_cons_cons]
      have hsame := putE_same h2 hq
      have := up_mk (es := putE es ⟨nm, ch⟩) (nm := nm) i3 h2 (by rw [hsame]; exact h2)
      rw [hsame] at this
      exact this
theorem write_parts {s x : List Pc} {root p : Int} {ws : List ByteArray} {content : List UInt8} (h : writeTo s root ws content = some (x, p)) : ∃ F z T, wayW s (some root) ws = some (F, z) ∧ leafOk s z = true ∧ upT (F.zip ws) (printOf (fileText content)) = some (T, p) ∧ putAll s (strL (fileText content) :: T) = some x := by
  unfold writeTo at h
  split at h
  · cases h
  · rename_i F z hw
    split at h
    · cases h
    · rename_i hl
      split at h
      · cases h
      · rename_i T p' hu
        split at h
        · cases h
        · rename_i s' hpa
          simp only [Option.some.injEq, Prod.mk.injEq] at h
          obtain ⟨rfl, rfl⟩ := h
          exact ⟨F, z, T, hw, by simpa using hl, hu, hpa⟩
theorem file_put {x : List Pc} {content : List UInt8} (h : getP x (printOf (bs (strL (fileText content)))) = some (strL (fileText content))) : hasP x (printOf (fileText content)) = true ∧ textAt x (printOf (fileText content)) = fileText content := by
  rw [bs_strL] at h
  refine ⟨get_has h, ?_⟩
  unfold textAt
  rw [h]
  exact bs_strL _
theorem lw_write {s x : List Pc} {root p : Int} {ws : List ByteArray} {content : List UInt8} (hs : storeOk s = true) (hc : contOk content = true) (h : writeTo s root ws content = some (x, p)) :
    storeOk x = true ∧ Le s x ∧ s.length ≤ x.length ∧ walkAt x p ws = (printOf (fileText content), true) ∧ textAt x (printOf (fileText content)) = fileText content ∧ writeTo x p ws content = some (x, p) := by
  obtain ⟨F, z, T, hw, hl, hu, hpa⟩ := write_parts h
  obtain ⟨hx, hle, hin⟩ := putAll_le hs hpa
  have hfile := file_put (hin (strL (fileText content)) (by simp)).2
  obtain ⟨i1, F', i2, i3⟩ := up_again hfile.1 ws _ F z T p hw hu (fun t ht => (hin t (by simp [ht])).2)
  refine ⟨hx, hle, hle.len hs hx, i1, hfile.2, ?_⟩
  unfold writeTo
  rw [i2]
  simp only []
  rw [if_neg (by unfold leafOk; simp only [hfile.1, hfile.2, (file_textOk hc).2]; simp), i3]
  simp only []
  rw [putAll_there hx hin]

/-! ### FnDropAt -/
theorem drop_parts {s x : List Pc} {root p : Int} {ws : List ByteArray} (h : dropOff s root ws = some (x, p)) : putAll s (dropTs (wayD s root ws)).1 = some x ∧ p = (dropTs (wayD s root ws)).2 := by
  unfold dropOff at h
  split at h
  · cases h
  · rename_i s' hpa
    simp only [Option.some.injEq, Prod.mk.injEq] at h
    obtain ⟨rfl, rfl⟩ := h
    exact ⟨hpa, rfl⟩
/-! ### FnWriteBack -/
theorem drop_nil {es : List Ent} {nm : ByteArray} {c : Int} (ho : entsOk es = true) (hc : firstOf es nm = some c) (h : dropE es nm = []) : putE [] ⟨nm, c⟩ = es := by
  have := putE_drop ho hc
  rw [h] at this
  exact this
theorem text_folder {s : List Pc} {pr c : Int} {nm : ByteArray} (hs : storeOk s = true) (hq : firstOf (entsOf (textAt s pr)) nm = some c) : printOf (folderText (entsOf (textAt s pr))) = pr := by
  have hf : readFolder (textAt s pr) = some (entsOf (textAt s pr)) := by
    unfold entsOf at hq ⊢
    cases hr : readFolder (textAt s pr) with
    | none => rw [hr] at hq; cases hq
    | some es => rfl
  rw [(readFolder_some hf).2]
  cases hg : getP s pr with
  | none =>
    exfalso
    have h0 : textAt s pr = [] := by unfold textAt; rw [hg]; rfl
    rw [h0, readFolder_emp] at hf
    cases hf
  | some t =>
    have := (getP_text hs hg).2.1
    unfold textAt
    rw [hg]; exact this
/-- Where all folders were dropped, they are made as they were. -/
theorem back_made {s x : List Pc} {leaf : Int} (hs : storeOk s = true) : ∀ (ws : List ByteArray) (pr : Int) (F : List (List Ent)) (z : Option Int) (T : List ByteArray) (b : Int), walkAt s pr ws = (leaf, true) → dropT (wayD s pr ws) = none → wayW x none ws = some (F, z) → upT (F.zip ws) leaf = some (T, b) → b = pr
  | [], pr, F, z, T, b, hw, _, _, hu => by
    simp only [List.zip_nil_right, upT, Option.some.injEq, Prod.mk.injEq] at hu
    unfold walkAt at hw
    split at hw
    · simp only [Prod.mk.injEq, and_true] at hw
      rw [← hu.2, hw]
    · cases hw
  | nm :: r, pr, F, z, T, b, hw, hd, hW, hu => by
    cases hq : firstOf (entsOf (textAt s pr)) nm with
    | none => rw [walk_no hq] at hw; cases hw
    | some c =>
      rw [walk_some hq] at hw
      have hwd : wayD s pr (nm :: r) = (entsOf (textAt s pr), nm) :: wayD s c r := by simp only [wayD, hq, Option.getD_some]
      rw [hwd] at hd
      unfold dropT at hd
      cases hdr : dropT (wayD s c r) with
      | some TP => rw [hdr] at hd; cases hd
      | none =>
        rw [hdr] at hd
        simp only [] at hd
        split at hd
        · rename_i hde
          obtain ⟨es, F0, hes, rfl, hW0⟩ := way_cons hW
          obtain rfl : es = [] := by simpa [folderQ] using hes.symm
          rw [List.zip_cons_cons] at hu
          obtain ⟨T0, ch, hu0, h1, h2, rfl, rfl⟩ := up_cons' hu
          obtain rfl := back_made hs r c F0 z T0 ch hw hdr hW0 hu0
          rw [drop_nil (entsOf_ok _) hq hde]
          exact text_folder hs hq
        · cases hd
theorem back_put {s x : List Pc} {leaf : Int} (hs : storeOk s = true) : ∀ (ws : List ByteArray) (pr : Int) (F : List (List Ent)) (z : Option Int) (T T' : List ByteArray) (b p : Int), walkAt s pr ws = (leaf, true) → dropT (wayD s pr ws) = some (T', p) → HasT x T' → wayW x (some p) ws = some (F, z) → upT (F.zip ws) leaf = some (T, b) → b = pr
  | [], pr, F, z, T, T', b, p, hw, hd, _, _, hu => by cases hd
  | nm :: r, pr, F, z, T, T', b, p, hw, hd, hT, hW, hu => by
    have hn := walk_named (nm :: r) s pr (by rw [hw])
    cases hq : firstOf (entsOf (textAt s pr)) nm with
    | none => rw [walk_no hq] at hw; cases hw
    | some c =>
      rw [walk_some hq] at hw
      have hwd : wayD s pr (nm :: r) = (entsOf (textAt s pr), nm) :: wayD s c r := by simp only [wayD, hq, Option.getD_some]
      have hr : Named (wayD s c r) := fun y hy => hn y (by rw [hwd]; simp [hy])
      have ho := entsOf_ok (textAt s pr)
      rw [hwd] at hd
      unfold dropT at hd
      obtain ⟨es, F0, hes, rfl, hW0⟩ := way_cons hW
      rw [List.zip_cons_cons] at hu
      obtain ⟨T0, ch, hu0, h1, h2, rfl, rfl⟩ := up_cons' hu
      cases hdr : dropT (wayD s c r) with
      | none =>
        rw [hdr] at hd
        simp only [] at hd
        split at hd
        · cases hd
        · simp only [Option.some.injEq, Prod.mk.injEq] at hd
          obtain ⟨rfl, rfl⟩ := hd
          have hf := folder_put (dropE_ok ho nm) (hT _ (by simp))
          obtain rfl : dropE (entsOf (textAt s pr)) nm = es := by
            simp only [folderQ, hf, Option.some.injEq] at hes; exact hes
          rw [dropE_first ho nm] at hW0
          obtain rfl := back_made hs r c F0 z T0 ch hw hdr hW0 hu0
          rw [putE_drop ho hq]
          exact text_folder hs hq
      | some TP =>
        obtain ⟨T1, ch1⟩ := TP
        rw [hdr] at hd
        simp only [Option.some.injEq, Prod.mk.injEq] at hd
        obtain ⟨rfl, rfl⟩ := hd
        have hput := putE_there ho hq (dropT_pv hr hdr)
        rw [putEnt_on ho hput] at hT hes
        obtain ⟨hT0, hTt⟩ := hT.app
        have hf := folder_put hput hTt
        obtain rfl : putE (entsOf (textAt s pr)) ⟨nm, ch1⟩ = es := by
          simp only [folderQ, hf, Option.some.injEq] at hes; exact hes
        have hq1 := putE_first hput
        simp only [] at hq1
        rw [hq1] at hW0
        obtain rfl := back_put hs r c F0 z T0 T1 ch ch1 hw hdr hT0 hW0 hu0
        rw [putE_twice (ents_asc ho), putE_same ho hq]
        exact text_folder hs hq
theorem lw_back {s x x' : List Pc} {root p b : Int} {ws : List ByteArray} {leaf : Int} {content : List UInt8} (hs : storeOk s = true) (h0 : ws ≠ []) (hw : walkAt s root ws = (leaf, true)) (hl : fileText content = textAt s leaf) (h : dropOff s root ws = some (x, p)) (h' : writeTo x p ws content = some (x', b)) : b = root := by
  obtain ⟨hpa, rfl⟩ := drop_parts h
  obtain ⟨hx, hle, hin⟩ := putAll_le hs hpa
  obtain ⟨F, z, T, hW, _, hu, _⟩ := write_parts h'
  have hlf : printOf (fileText content) = leaf := by
    rw [hl]
    obtain ⟨t, ht⟩ := has_get (walk_has _ _ _ hw)
    unfold textAt
    rw [ht]
    exact (getP_text hs ht).2.1
  rw [hlf] at hu
  unfold dropTs at hin hW
  cases hd : dropT (wayD s root ws) with
  | none =>
    rw [hd] at hin hW
    simp only [Option.getD_none] at hin hW
    have hf := folder_put (es := []) rfl (hin _ (by simp)).2
    have hW' : wayW x none ws = some (F, z) := by
      cases ws with
      | nil => exact absurd rfl h0
      | cons nm r =>
        unfold wayW at hW ⊢
        simp only [folderQ, hf] at hW ⊢
        exact hW
    exact back_made hs ws root F z T b hw hd hW' hu
  | some TP =>
    obtain ⟨T', p'⟩ := TP
    rw [hd] at hin hW
    simp only [Option.getD_some] at hin hW
    exact back_put hs ws root F z T T' b p' hw hd (fun t ht => (hin t ht).2) hW hu

/-! ### FnWriteOrder -/
theorem way_le {s x : List Pc} (h : Le s x) : ∀ (ws : List ByteArray) (q : Option Int) (W : List (List Ent) × Option Int), wayW s q ws = some W → wayW x q ws = some W
  | [], q, W, hw => hw
  | nm :: r, q, (F, z), hw => by
    obtain ⟨es, F0, hes, rfl, hw0⟩ := way_cons hw
    have hes' : folderQ x q = some es := by
      cases q with
      | none => exact hes
      | some p => exact folderAt_le h hes
    unfold wayW
    rw [hes']
    simp only []
    rw [way_le h r _ _ hw0]
theorem order_up {s a b : List Pc} {l1 l2 : Int} (ha : Le s a) (hb : Le s b) (hf1 : folderAt a l1 = none) (hf2 : folderAt b l2 = none) : ∀ (r1 r2 : List ByteArray) (q : Option Int) (F1 F2 F12 F21 : List (List Ent)) (z1 z2 z12 z21 : Option Int) (T1 T2 T12 T21 : List ByteArray) (o1 o2 t t' : Int), r1 ≠ r2 →
    wayW s q r1 = some (F1, z1) → upT (F1.zip r1) l1 = some (T1, o1) → HasT a T1 → wayW a (some o1) r2 = some (F12, z12) → upT (F12.zip r2) l2 = some (T12, t) →
    wayW s q r2 = some (F2, z2) → upT (F2.zip r2) l2 = some (T2, o2) → HasT b T2 → wayW b (some o2) r1 = some (F21, z21) → upT (F21.zip r1) l1 = some (T21, t') → t = t'
  | [], [], q, F1, F2, F12, F21, z1, z2, z12, z21, T1, T2, T12, T21, o1, o2, t, t', hne, _, _, _, _, _, _, _, _, _, _ => absurd rfl hne
  | [], nm :: r, q, F1, F2, F12, F21, z1, z2, z12, z21, T1, T2, T12, T21, o1, o2, t, t', _, hw1, hu1, _, hw12, _, _, _, _, _, _ => by
    simp only [List.zip_nil_right, upT, Option.some.injEq, Prod.mk.injEq] at hu1
    obtain ⟨es, F0, hes, _, _⟩ := way_cons hw12
    rw [← hu1.2] at hes
    simp only [folderQ, hf1] at hes
    cases hes
  | nm :: r, [], q, F1, F2, F12, F21, z1, z2, z12, z21, T1, T2, T12, T21, o1, o2, t, t', _, _, _, _, _, _, _, hu2, _, hw21, _ => by
    simp only [List.zip_nil_right, upT, Option.some.injEq, Prod.mk.injEq] at hu2
    obtain ⟨es, F0, hes, _, _⟩ := way_cons hw21
    rw [← hu2.2] at hes
    simp only [folderQ, hf2] at hes
    cases hes
  | n1 :: r1, n2 :: r2, q, F1, F2, F12, F21, z1, z2, z12, z21, T1, T2, T12, T21, o1, o2, t, t', hne, hw1, hu1, hT1, hw12, hu12, hw2, hu2, hT2, hw21, hu21 => by
    obtain ⟨es, G1, hes, rfl, hv1⟩ := way_cons hw1
    obtain ⟨es', G2, hes', rfl, hv2⟩ := way_cons hw2
    obtain rfl := Option.some.inj (hes.symm.trans hes')
    rw [List.zip_cons_cons] at hu1 hu2
    obtain ⟨U1, c1, hx1, ho, hp1, rfl, rfl⟩ := up_cons' hu1
    obtain ⟨U2, c2, hx2, _, hp2, rfl, rfl⟩ := up_cons' hu2
    obtain ⟨hTa, hTa'⟩ := hT1.app
    obtain ⟨hTb, hTb'⟩ := hT2.app
    have hfa := folder_put hp1 hTa'
    have hfb := folder_put hp2 hTb'
    obtain ⟨e12, G12, he12, rfl, hv12⟩ := way_cons hw12
    obtain ⟨e21, G21, he21, rfl, hv21⟩ := way_cons hw21
    obtain rfl : putE es ⟨n1, c1⟩ = e12 := by simp only [folderQ, hfa, Option.some.injEq] at he12; exact he12
    obtain rfl : putE es ⟨n2, c2⟩ = e21 := by simp only [folderQ, hfb, Option.some.injEq] at he21; exact he21
    rw [List.zip_cons_cons] at hu12 hu21
    obtain ⟨U12, c12, hx12, _, _, rfl, rfl⟩ := up_cons' hu12
    obtain ⟨U21, c21, hx21, _, _, rfl, rfl⟩ := up_cons' hu21
    by_cases hn : n1 = n2
    · subst hn
      have hq1 := putE_first hp1
      have hq2 := putE_first hp2
      simp only [] at hq1 hq2
      rw [hq1] at hv12
      rw [hq2] at hv21
      obtain rfl := order_up ha hb hf1 hf2 r1 r2 (firstOf es n1) G1 G2 G12 G21 z1 z2 z12 z21 U1 U2 U12 U21 c1 c2 c12 c21 (fun h => hne (by rw [h])) hv1 hx1 hTa hv12 hx12 hv2 hx2 hTb hv21 hx21
      rw [putE_twice (ents_asc ho), putE_twice (ents_asc ho)]
    · have hq1 := putE_other ho hp1 (nm := n2) (fun h => hn h.symm)
      have hq2 := putE_other ho hp2 (nm := n1) hn
      rw [hq1, way_le ha _ _ _ hv2] at hv12
      rw [hq2, way_le hb _ _ _ hv1] at hv21
      simp only [Option.some.injEq, Prod.mk.injEq] at hv12 hv21
      obtain ⟨rfl, rfl⟩ := hv12
      obtain ⟨rfl, rfl⟩ := hv21
      rw [hx2] at hx12
      rw [hx1] at hx21
      simp only [Option.some.injEq, Prod.mk.injEq] at hx12 hx21
      obtain ⟨rfl, rfl⟩ := hx12
      obtain ⟨rfl, rfl⟩ := hx21
      rw [putE_swap (ents_asc ho) (show (⟨n1, c1⟩ : Ent).name ≠ (⟨n2, c2⟩ : Ent).name from hn)]
theorem file_nofolder {x : List Pc} {content : List UInt8} (hc : contOk content = true) (h : getP x (printOf (bs (strL (fileText content)))) = some (strL (fileText content))) : folderAt x (printOf (fileText content)) = none := by
  rw [← folderAt_text, (file_put h).2]
  exact file_no_folder (file_textOk hc).2
theorem lw_order {s a a' b b' : List Pc} {root one two first second : Int} {w1 w2 : List ByteArray} {k1 k2 : List UInt8} (hs : storeOk s = true) (hc1 : contOk k1 = true) (hc2 : contOk k2 = true) (hne : w1 ≠ w2)
    (h1 : writeTo s root w1 k1 = some (a, one)) (h12 : writeTo a one w2 k2 = some (a', two)) (h2 : writeTo s root w2 k2 = some (b, first)) (h21 : writeTo b first w1 k1 = some (b', second)) : two = second := by
  obtain ⟨F1, z1, T1, hw1, _, hu1, hp1⟩ := write_parts h1
  obtain ⟨F2, z2, T2, hw2, _, hu2, hp2⟩ := write_parts h2
  obtain ⟨F12, z12, T12, hw12, _, hu12, _⟩ := write_parts h12
  obtain ⟨F21, z21, T21, hw21, _, hu21, _⟩ := write_parts h21
  obtain ⟨_, hla, hia⟩ := putAll_le hs hp1
  obtain ⟨_, hlb, hib⟩ := putAll_le hs hp2
  exact order_up hla hlb (file_nofolder hc1 (hia _ (by simp)).2) (file_nofolder hc2 (hib _ (by simp)).2) w1 w2 (some root) F1 F2 F12 F21 z1 z2 z12 z21 T1 T2 T12 T21 one first two second hne hw1 hu1 (fun t ht => (hia t (by simp [ht])).2) hw12 hu12 hw2 hu2 (fun t ht => (hib t (by simp [ht])).2) hw21 hu21

end Go.Proofs.YtachfmlfmpaddaaGreatDoor
