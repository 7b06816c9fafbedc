/- Walks and plain facts, joined: PutE. -/
import Derived.Test.YtachfmlfmpaddaaGreatDoorMg5
import Derived.Test.YtachfmlfmpaddaaGreatDoorMg7
import Derived.Test.YtachfmlfmpaddaaGreatDoorMg15
import Derived.Test.YtachfmlfmpaddaaGreatDoorMg16
set_option linter.unusedVariables false
set_option linter.unusedSimpArgs false

/- Walks: the reference's entries that are put. -/
namespace Go.Proofs.YtachfmlfmpaddaaGreatDoor
open Go.RowKit

theorem lit_rdE {w : World} {b : Nat} {e : Ent} (h : w.heap[b]? = some (.cells #[.string e.name, .int .i64 e.print] 81 (0, 0))) : Ents w w.heap.size (.slice (some ⟨b, 0, none⟩) 1 1) [e] := by
  refine ⟨_, _, rfl, by simp, by simp [maxLen], by simp, fun _ => ⟨b, 0, rfl, (Array.getElem?_eq_some_iff.1 h).1, fun j u hu => ?_⟩⟩
  rw [Nat.zero_add, cell_of_row w b j _ _ (0, 0) h]
  simpa using hu
theorem encE_one {xs : List Ent} : ∀ y ∈ xs, ∀ u ∈ encE y, u.oneCell' = true := by
  intro y _ u hu
  simp [encE] at hu
  rcases hu with rfl | rfl <;> rfl
theorem flatE_take (xs : List Ent) (i : Nat) : (xs.take i).flatMap encE = (xs.flatMap encE).take (i * 2) := by
  induction xs generalizing i with
  | nil => simp
  | cons x r ih =>
    cases i with
    | zero => simp
    | succ i =>
      rw [List.take_succ_cons, List.flatMap_cons, List.flatMap_cons, ih, show (i + 1) * 2 = i * 2 + 2 by omega]
      rfl
theorem flatE_drop (xs : List Ent) (i : Nat) : (xs.drop i).flatMap encE = (xs.flatMap encE).drop (i * 2) := by
  induction xs generalizing i with
  | nil => simp
  | cons x r ih =>
    cases i with
    | zero => simp
    | succ i =>
      rw [List.drop_succ_cons, List.flatMap_cons, ih, show (i + 1) * 2 = i * 2 + 2 by omega]
      rfl
theorem some_ne' {a b : Nat} (h : a ≠ b) : some a ≠ some b := fun e => h (Option.some.inj e)
def isEmpE (B : Nat) : Value → World → Prop := fun v w => ∃ b, v = .slice (some ⟨b, 0, none⟩) 0 0 ∧ B ≤ b ∧ w.heap[b]? = some (.cells #[] 81 (0, 0)) ∧ OwnE w B v []
def isOwnE (B : Nat) (xs : List Ent) : Value → World → Prop := fun v w => OwnE w B v xs
def isLitE (B : Nat) (e : Ent) : Value → World → Prop := fun v w => ∃ b, v = .slice (some ⟨b, 0, none⟩) 1 1 ∧ B ≤ b ∧ w.heap[b]? = some (.cells #[.string e.name, .int .i64 e.print] 81 (0, 0))
def isRdE (W0 : World) (xs : List Ent) : Value → World → Prop := fun v _ => Ents W0 W0.heap.size v xs
def peF (W0 : World) (sl : Value) (xs : List Ent) (k : Nat) (e : Ent) (rl : List Ent) : List (Value → World → Prop) :=
  [isEmpE W0.heap.size, isV sl, isV (.int .i64 k), isRdE W0 (xs.take k), isOwnE W0.heap.size ([] ++ xs.take k), isV (.agg #[.string e.name, .int .i64 e.print]), isLitE W0.heap.size e,
   isOwnE W0.heap.size ([] ++ xs.take k ++ [e]), isRdE W0 rl, isOwnE W0.heap.size ([] ++ xs.take k ++ [e] ++ rl), isOwnE W0.heap.size ([] ++ xs.take k ++ [e] ++ rl)]
/-- The appends use up what they append to, and the literal. -/
def peCons (j i : Nat) : Bool := (j == 4 && i == 0) || (j == 7 && (i == 4 || i == 6)) || (j == 9 && i == 7)
def peS (j : Nat) (w w' : World) : Prop := w = w' ∨ Below w.heap.size w w' ∨ (j = 4 ∧ ∃ b, w.heap[b]? = some (.cells #[] 81 (0, 0)) ∧ w.grownBy w' (Value.ownBlock (.slice (some ⟨b, 0, none⟩) 0 0))) ∨ j = 7 ∨
  (j = 9 ∧ ∃ (g : Nat) (cs : Array Value), w.heap[g]? = some (.cells cs 81 (0, 0)) ∧ 0 < cs.size ∧ w.grownBy w' (some g))
theorem own_rowE {w : World} {B : Nat} {v : Value} {xs : List Ent} (h : OwnE w B v xs) (h0 : 0 < xs.length) : ∃ (g : Nat) (cs : Array Value), v.ownBlock = some g ∧ w.heap[g]? = some (.cells cs 81 (0, 0)) ∧ 0 < cs.size := by
  rcases h.2 with ⟨_, h2⟩ | ⟨g, cap, cur, rfl, hb, hg, hnc, hcm, hcs, ht⟩
  · omega
  · exact ⟨g, cur, rfl, hg, by omega⟩
theorem own_far_empE {w w' : World} {B b : Nat} {v : Value} {xs : List Ent} (h : OwnE w B v xs) (hh : w.heap[b]? = some (.cells #[] 81 (0, 0))) (hg : w.grownBy w' (Value.ownBlock (.slice (some ⟨b, 0, none⟩) 0 0))) (h0 : 0 < xs.length) : OwnE w' B v xs := by
  obtain ⟨g, cs, hv, h1, h2⟩ := own_rowE h h0
  refine h.kept hg (.inr ?_)
  rw [hv]
  intro e
  have e2 : g = b := Option.some.inj e
  subst e2
  rw [hh] at h1
  simp at h1
  subst h1
  simp at h2

/-- The first so many of a row, and the rest. -/
theorem Rd.frontE {w : World} {B n c q : Nat} {a : Option Addr} {xs : List Ent} (h : Ents w B (.slice a n c) xs) (hn : xs.length = n) (hq : q ≤ n) : Ents w B (.slice a q c) (xs.take q) := by
  obtain ⟨a', c', hv, h1, h2, h3, h4⟩ := h
  simp only [Value.slice.injEq] at hv
  obtain ⟨rfl, rfl, rfl⟩ := hv
  refine ⟨a, c, by rw [List.length_take, Nat.min_eq_left hq], by rw [List.length_take]; omega, h2, by rw [flatE_take, List.length_take, h3, List.length_take, Nat.min_eq_left (by omega), Nat.min_eq_left hq], fun h0 => ?_⟩
  rw [List.length_take] at h0
  obtain ⟨b, o, rfl, hb, hat⟩ := h4 (by omega)
  refine ⟨b, o, rfl, hb, fun j u hu => hat j u ?_⟩
  rw [flatE_take, List.getElem?_take] at hu
  split at hu
  · exact hu
  · cases hu
theorem Rd.backE {w : World} {B n c q : Nat} {a : Option Addr} {xs : List Ent} (h : Ents w B (.slice a n c) xs) (hn : xs.length = n) (hq : q ≤ n) : Ents w B (.slice (if c = q then a else a.map (fun (x : Addr) => x.add (q * 2))) (n - q) (c - q)) (xs.drop q) := by
  obtain ⟨a', c', hv, h1, h2, h3, h4⟩ := h
  simp only [Value.slice.injEq] at hv
  obtain ⟨rfl, rfl, rfl⟩ := hv
  refine ⟨_, c - q, by rw [List.length_drop], by rw [List.length_drop]; omega, Nat.le_trans (Nat.sub_le _ _) h2, by rw [flatE_drop, List.length_drop, h3, List.length_drop, Nat.sub_mul], fun h0 => ?_⟩
  rw [List.length_drop] at h0
  obtain ⟨b, o, rfl, hb, hat⟩ := h4 (by omega)
  have hadd : (⟨b, o, none⟩ : Addr).add (q * 2) = ⟨b, o + q * 2, none⟩ := by unfold Addr.add; split <;> simp_all
  refine ⟨b, o + q * 2, by rw [if_neg (by omega)]; simp [hadd], hb, fun j u hu => ?_⟩
  rw [flatE_drop, List.getElem?_drop] at hu
  have := hat (q * 2 + j) u hu
  rwa [← Nat.add_assoc] at this

theorem str_eqE {u t : ByteArray} : (u.toList == t.toList) = decide (u = t) := by
  rw [Bool.eq_iff_iff, beq_iff_eq, decide_eq_true_iff, ByteArray.toList_eq, ByteArray.toList_eq]
  constructor
  · intro e; exact Go.WideShapes.bytes_inj e
  · rintro rfl; rfl
/-- The world ahead of a region, by a name. -/
theorem drew_out {P : Program} {C : Code} {Q : Exit → Act → World → Prop} {a : Act} {W : World} (W1 : World) (hz : ∃ q, W = W1.drewN q) (H : ∀ W0, (∃ q, W0 = W1.drewN q) → C.wp P Q a W0) : C.wp P Q a W := H W hz

set_option maxHeartbeats 2000000 in
set_option maxRecDepth 100000 in
theorem spec_PutEntry_c (v : Value) (xs : List Ent) (e : Ent) (w : World) (h : Ents w w.heap.size v xs) (hx0 : ∀ x ∈ xs, x.name.size ≤ 1048576) (hl0 : xs.length ≤ 1048570) (hes : e.name.size ≤ 1048576) :
    Calls Tryz.prog 154 #[v, .agg #[.string e.name, .int .i64 e.print]] w fun en w' => ∃ v', en = .returned (.tuple #[v', .bool (putEnt xs e).2]) ∧ OwnE w' w.heap.size v' (putEnt xs e).1 ∧ Below w.heap.size w w' := by
  obtain ⟨n, hn⟩ : ∃ n, xs.length = n := ⟨_, rfl⟩
  obtain ⟨a, c, rfl, hnc, hc63, _⟩ := h.ents hn
  have HN := hid hn
  have HX := hid hx0
  have HES := hid hes
  have HL := hid (show xs.length ≤ 1048576 by omega)
  rw [hn] at hl0
  have hbA : Below w.heap.size w (w.alloc (.cells #[.string e.name, .int .i64 e.print] 81)) := (Below.refl _ _).alloc (Nat.le_refl _) _
  have hA : Ents (w.alloc (.cells #[.string e.name, .int .i64 e.print] 81)) w.heap.size (.slice a n c) xs := h.below hbA (Nat.le_refl _)
  have hbx0 : (w.alloc (.cells #[.string e.name, .int .i64 e.print] 81)).heap[w.heap.size]? = some (.cells #[.string e.name, .int .i64 e.print] 81 (0, 0)) := heap_alloc_new w _
  clear h hes hx0 hn
  cases hok : entsOk xs
  · have HO := hid (show putEnt xs e = ([], false) by unfold putEnt; rw [hok]; rfl)
    have HK := hid hok
    have HA := hid hA
    clear hA hok hbx0
    go_enter Tryz.func154, Tryz.ntmps154
    go_wp2_with fail
    refine (spec_EntriesValid_c _ xs _ _ HA.out HX.out HL.out).mono ?_
    rw [HK.out]
    rintro e' w1 ⟨rfl, z, rfl⟩
    go_wp2
    go_ret2
    exact ⟨_, by rw [HO.out]; rfl, by rw [HO.out]; have h9 := (Own.made (enc := encE) (e := 81) (k := 2) (w.alloc (.cells #[.string e.name, .int .i64 e.print] 81)) hbA.size).drewN z; rw [show (w.alloc (.cells #[.string e.name, .int .i64 e.print] 81)).heap.size = w.heap.size + 1 by simp] at h9; exact h9, bl_drewN (hbA.alloc hbA.size _) z⟩
  have HK := hid hok
  obtain ⟨q, hq⟩ : ∃ q, entAt xs e.name = q := ⟨_, rfl⟩
  have HQ := hid hq
  have hqn := entAt_le xs e.name
  rw [hq, HN.out] at hqn
  have h3 := (ents_in hok).1
  rw [HN.out] at h3
  have HPX := hid (show ∀ x ∈ putE xs e, x.name.size ≤ 1048576 from fun x hx => by
    rcases (putE_mem (ents_asc hok)).1 hx with rfl | h1
    · exact HES.out
    · exact HX.out x h1.1)
  have HPL := hid (show (putE xs e).length ≤ 1048576 by have := putE_len xs e; have := HN.out; omega)
  obtain ⟨i0, hi0, hz0, hz1, hz2⟩ := info_parts info_ent
  have HA := hid hA
  clear hok hq hA
  go_enter Tryz.func154, Tryz.ntmps154
  go_wp2_with fail
  refine (spec_EntriesValid_c _ xs _ _ HA.out HX.out HL.out).mono ?_
  rw [HK.out]
  rintro e' w1 ⟨rfl, z, rfl⟩
  obtain ⟨W1, hW1⟩ : ∃ W1, W1 = (w.alloc (.cells #[.string e.name, .int .i64 e.print] 81)).drewN z := ⟨_, rfl⟩
  have d1 : Below w.heap.size w W1 := by rw [hW1]; exact bl_drewN hbA z
  have hbx1 : W1.heap[w.heap.size]? = some (.cells #[.string e.name, .int .i64 e.print] 81 (0, 0)) := by rw [hW1]; exact hbx0
  have h1 : Ents W1 w.heap.size (.slice a n c) xs := by rw [hW1]; exact HA.out.drewN z
  obtain ⟨a', c', hv0, _, _, h3'⟩ := h1.ents HN.out
  simp only [Value.slice.injEq] at hv0
  obtain ⟨e1, _, e2⟩ := hv0
  subst e1
  subst e2
  rw [← hW1]
  have H1 := hid h1
  have HBX := hid hbx1
  clear hW1 hbx0 HA hbA h1
  obtain ⟨x0, x1, _, _⟩ := two_cells_of hbx1
  clear hbx1
  go_wp2
  go_loopw [6] (fun i wr => ∃ k z' : Nat, k ≤ q ∧ i = .int .i64 k ∧ wr = W1.drewN z') (fun i _ => n - (intOf i).toNat)
  case atStart => exact ⟨0, 0, Nat.zero_le _, rfl, rfl⟩
  case round =>
    obtain ⟨k, z', hk, rfl, rfl⟩ := hrel
    by_cases hlt : k < q
    · obtain ⟨b, o, t, r, rfl, hbl, hx, k0, k1⟩ := h3' k (by omega)
      have hrp := entAt_below (l := xs) (nm := e.name) (by rw [HQ.out]; exact hlt) hx.out
      have hd1 : Go.Op.bytesLess t.toList e.name.toList = true := by rw [ltN_eq]; exact hrp
      have hd0 : decide (k < n) = true := by simp; omega
      have hkn : (k : Int) < n := by omega
      clear h3' hrp
      go_wp2
      go_quiet (fail)
      go_wp2
      go_roundw
      case rel => exact ⟨k + 1, _, by omega, by go_num, rfl⟩
      case measure => simp [intOf]; omega
    · obtain rfl : k = q := by omega
      have hq0 : (k : Int) ≤ n := by omega
      have hqc : (k : Int) ≤ c := by omega
      have hqc2 : (n : Int) ≤ c := by omega
      by_cases hkn : k < n
      · obtain ⟨b, o, t, r, rfl, hbl, hx, k0, k1⟩ := h3' k hkn
        have hge := entAt_from (ents_asc HK.out) (nm := e.name) (by rw [HQ.out]; exact Nat.le_refl k) hx.out
        simp only at hge
        have hd0 : decide (k < n) = true := by simp; omega
        have hd1 : Go.Op.bytesLess t.toList e.name.toList = false := by rw [ltN_eq]; exact hge
        have hkn' : (k : Int) < n := by omega
        have hs := str_eqE (u := t) (t := e.name)
        clear h3' hge
        by_cases hte : t = e.name
        · have hd2 : (t.toList == e.name.toList) = true := by rw [hs]; exact decide_eq_true hte
          have HIS := hid (show isNm xs e.name k = true from isNm_iff.2 ⟨_, hx.out, hte⟩)
          have HPE := hid (show xs.take k ++ [e] ++ xs.drop (k + 1) = putE xs e by rw [putE_eq, HQ.out]; unfold behind; rw [HQ.out, HIS.out]; simp)
          have hw1 : IntKind.i64.wrap ((k : Int) + 1) = ((k + 1 : Nat) : Int) := IntWalk.i64_in _ (by omega)
          have hk1 : ((k : Int) + 1).toNat = k + 1 := by omega
          have hq1 : (k : Int) + 1 ≤ n := by omega
          have hqc1 : (k : Int) + 1 ≤ c := by omega
          obtain ⟨ra, hra⟩ : ∃ ra : Option Addr, (if c = k + 1 then some ⟨b, o, none⟩ else some ⟨b, o + (k + 1) * 2, none⟩) = ra := ⟨_, rfl⟩
          clear hs hte
          go_wp2
          go_quiet (fail)
          go_wp2
          go_quiet (fail)
          go_wp2
          refine drew_out W1 (by first | exact ⟨_, rfl⟩ | exact ⟨_, World.drewN_drewN _ _ _⟩) ?_
          rintro W0 ⟨z0, hW0⟩
          have d0 : Below w.heap.size w W0 := by rw [hW0]; exact bl_drewN d1 _
          have hB0 : w.heap.size ≤ W0.heap.size := d0.size
          have HH : Hid (Ents W0 W0.heap.size (.slice (some ⟨b, o, none⟩) n c) xs) := by rw [hW0]; exact (H1.out.drewN _).more (by have := d1.size; simpa using this)
          have hbox : W0.heap[w.heap.size]? = some (.cells #[.string e.name, .int .i64 e.print] 81 (0, 0)) := by rw [hW0]; exact HBX.out
          have hlt0 := (Array.getElem?_eq_some_iff.1 hbox).1
          have hfr := HH.out.frontE HN.out (q := k) (by omega)
          have hbk := HH.out.backE HN.out (q := k + 1) (by omega)
          rw [show (if c = k + 1 then (some ⟨b, o, none⟩) else ((some ⟨b, o, none⟩) : Option Addr).map (fun (x : Addr) => x.add ((k + 1) * 2))) = ra by rw [← hra]; (split <;> simp [Addr.add])] at hbk
          refine wp_region_inv3d rfl (by kernel_rfl) (by kernel_rfl) (by kernel_rfl) (by kernel_rfl) (by simp) (fun _ w' => Below W0.heap.size W0 w') (fun j w' w'' => peS j w' w'') (fact (peF W0 (.slice (some ⟨b, o, none⟩) n c) xs k e (xs.drop (k + 1)))) peCons (Below.refl _ _).drew ?hF ?grd ?oo ?cg ?fin
          case hF =>
            intro j i v w' w'' hS hc hne hwt hdp hf
            have hi : i < 11 ∨ 11 ≤ i := by omega
            rcases hi with hi | hi
            · obtain rfl | rfl | rfl | rfl | rfl | rfl | rfl | rfl | rfl | rfl | rfl : i = 0 ∨ i = 1 ∨ i = 2 ∨ i = 3 ∨ i = 4 ∨ i = 5 ∨ i = 6 ∨ i = 7 ∨ i = 8 ∨ i = 9 ∨ i = 10 := by omega
              · rcases hS with rfl | hb | ⟨rfl, b, hh, hg⟩ | rfl | ⟨rfl, g, cs, hh, hs, hg⟩
                · exact hf
                · obtain ⟨b0, h1, h2, h3, h4⟩ := hf; exact ⟨b0, h1, h2, (hb.block b0 (Array.getElem?_eq_some_iff.1 h3).1).trans h3, h4.on hb⟩
                · simp [peCons] at hc
                · have h9 := hdp _ rfl ⟨4, .data⟩ (by simp) rfl; simp [peCons] at h9
                · obtain ⟨b0, h1, h2, h3, h4⟩ := hf
                  have hne' : b0 ≠ g := by rintro rfl; rw [h3] at hh; simp at hh; subst hh; simp at hs
                  exact ⟨b0, h1, h2, (hg.block b0 (Array.getElem?_eq_some_iff.1 h3).1 (some_ne' hne')).trans h3, h4.kept hg (.inr (by rw [h1]; exact some_ne' hne'))⟩
              · exact hf
              · exact hf
              · exact hf
              · rcases hS with rfl | hb | ⟨rfl, b, hh, hg⟩ | rfl | ⟨rfl, g, cs, hh, hs, hg⟩
                · exact hf
                · exact Own.on hf hb
                · exact absurd rfl hne
                · simp [peCons] at hc
                · have h9 := hdp _ rfl ⟨7, .data⟩ (by simp) rfl; simp [peCons] at h9
              · exact hf
              · rcases hS with rfl | hb | ⟨rfl, b, hh, hg⟩ | rfl | ⟨rfl, g, cs, hh, hs, hg⟩
                · exact hf
                · obtain ⟨b0, h1, h2, h3⟩ := hf; exact ⟨b0, h1, h2, (hb.block b0 (Array.getElem?_eq_some_iff.1 h3).1).trans h3⟩
                · obtain ⟨b0, h1, h2, h3⟩ := hf; exact ⟨b0, h1, h2, (hg.block b0 (Array.getElem?_eq_some_iff.1 h3).1 (some_ne' (by rintro rfl; rw [hh] at h3; simp at h3))).trans h3⟩
                · simp [peCons] at hc
                · have h9 := hdp _ rfl ⟨7, .data⟩ (by simp) rfl; simp [peCons] at h9
              · rcases hS with rfl | hb | ⟨rfl, b, hh, hg⟩ | rfl | ⟨rfl, g, cs, hh, hs, hg⟩
                · exact hf
                · exact Own.on hf hb
                · exact own_far_empE hf hh hg (by simp <;> omega)
                · exact absurd rfl hne
                · simp [peCons] at hc
              · exact hf
              · rcases hS with rfl | hb | ⟨rfl, b, hh, hg⟩ | rfl | ⟨rfl, g, cs, hh, hs, hg⟩
                · exact hf
                · exact Own.on hf hb
                · exact own_far_empE hf hh hg (by simp <;> omega)
                · exact absurd (hwt.symm.trans (c := true) (by kernel_rfl)) (by decide)
                · exact absurd rfl hne
              · rcases hS with rfl | hb | ⟨rfl, b, hh, hg⟩ | rfl | ⟨rfl, g, cs, hh, hs, hg⟩
                · exact hf
                · exact Own.on hf hb
                · exact own_far_empE hf hh hg (by simp <;> omega)
                · exact absurd (hwt.symm.trans (c := true) (by kernel_rfl)) (by decide)
                · exact absurd (hwt.symm.trans (c := true) (by kernel_rfl)) (by decide)
            · unfold fact at *; rw [List.getD_eq_getElem?_getD, List.getElem?_eq_none (by simpa [peF] using hi)]; trivial
          case grd =>
            intro i oo d bb hi hg v w' hf
            obtain ⟨hlt1, rfl⟩ := Array.getElem?_eq_some_iff.1 hi
            have hlt' : i < 11 := hlt1
            clear hi
            obtain rfl | rfl | rfl | rfl | rfl | rfl | rfl | rfl | rfl | rfl | rfl : i = 0 ∨ i = 1 ∨ i = 2 ∨ i = 3 ∨ i = 4 ∨ i = 5 ∨ i = 6 ∨ i = 7 ∨ i = 8 ∨ i = 9 ∨ i = 10 := by omega
            all_goals simp at hg
          case cg =>
            intro i oo d bb hi hg j
            obtain ⟨hlt1, rfl⟩ := Array.getElem?_eq_some_iff.1 hi
            have hlt' : i < 11 := hlt1
            clear hi
            obtain rfl | rfl | rfl | rfl | rfl | rfl | rfl | rfl | rfl | rfl | rfl : i = 0 ∨ i = 1 ∨ i = 2 ∨ i = 3 ∨ i = 4 ∨ i = 5 ∨ i = 6 ∨ i = 7 ∨ i = 8 ∨ i = 9 ∨ i = 10 := by omega
            all_goals simp at hg
          case oo =>
            intro i oo hi qn a' wk hnn hj hb' hd
            obtain ⟨hlt1, rfl⟩ := Array.getElem?_eq_some_iff.1 hi
            have hlt' : i < 11 := hlt1
            clear hi
            obtain rfl | rfl | rfl | rfl | rfl | rfl | rfl | rfl | rfl | rfl | rfl : i = 0 ∨ i = 1 ∨ i = 2 ∨ i = 3 ∨ i = 4 ∨ i = 5 ∨ i = 6 ∨ i = 7 ∨ i = 8 ∨ i = 9 ∨ i = 10 := by omega
            · exact iv_val (v := .slice (some ⟨wk.heap.size, 0, none⟩) 0 0) (w' := wk.alloc (.cells #[] 81)) (by simp [execOp, go_sem, Result.andThen]) ⟨_, rfl, hj.alloc hj.size _, .inr (.inl ((Below.refl _ _).alloc (Nat.le_refl _) _)), (show isEmpE _ _ _ from ⟨_, rfl, hj.size, heap_alloc_new _ _, Own.made _ hj.size⟩)⟩
            · have b0 : a'.eval (.tmp 0) = .slice (some ⟨b, o, none⟩) n c := hb' 0 (by rfl); have c0 := ev_get b0
              exact iv_val (v := .slice (some ⟨b, o, none⟩) n c) (by simp [execOp, b0]) ⟨_, rfl, hj, .inl rfl, rfl⟩
            · have b6 : a'.eval (.tmp 6) = .int .i64 k := hb' 6 (by rfl); have c6 := ev_get b6
              exact iv_val (v := .int .i64 k) (by simp [execOp, b6]) ⟨_, rfl, hj, .inl rfl, rfl⟩
            · have v1 : a'.eval (.tmp 51) = .slice (some ⟨b, o, none⟩) n c := hd ⟨1, .data⟩ (by simp) rfl (by intro j _ hc; revert hc; unfold peCons; simp; try omega); have u1 := ev_get v1
              have v2 : a'.eval (.tmp 52) = .int .i64 k := hd ⟨2, .data⟩ (by simp) rfl (by intro j _ hc; revert hc; unfold peCons; simp; try omega); have u2 := ev_get v2
              exact iv_val (v := .slice (some ⟨b, o, none⟩) k c) (by simp [execOp, u1, u2, hqc, go_sem, Result.andThen]) ⟨_, rfl, hj, .inl rfl, (show isRdE W0 (xs.take k) _ wk from hfr)⟩
            · have e0 : isEmpE W0.heap.size (a'.eval (.tmp 50)) wk := hd ⟨0, .data⟩ (by simp) rfl (by intro j _ hc; revert hc; unfold peCons; simp; try omega)
              obtain ⟨b0, v0, hb0, hh0, o0⟩ := e0
              have e3 : isRdE W0 (xs.take k) (a'.eval (.tmp 53)) wk := hd ⟨3, .data⟩ (by simp) rfl (by intro j _ hc; revert hc; unfold peCons; simp; try omega)
              obtain ⟨i0, hi0, hz0, hz1, hz2⟩ := info_parts info_ent
              refine wp_cat (enc := encE) wk (.tmp 50) (.tmp 53) 67 rfl W0.heap.size 81 i0 _ 2 24 Tryz.underlying67 hi0 hz0 hz1 hz2 rfl (by decide) (a'.eval (.tmp 50)) (a'.eval (.tmp 53)) [] (xs.take k) rfl rfl o0 _ (Rd.below e3 hj (Nat.le_refl _)) encE_one (by have := HN.out; simp <;> omega) (by decide) hj.size ?_
              intro v' w' ho hg hg'
              rw [v0] at hg
              exact ⟨_, rfl, hj.grown hg hj.size (fun g hg1 => by simp [Value.ownBlock] at hg1; omega), .inr (.inr (.inl ⟨rfl, b0, hh0, hg⟩)), (show isOwnE _ _ _ _ from ho)⟩
            · have b3 : a'.eval (.tmp 3) = .pointer (some ⟨w.heap.size, 0, none⟩) := hb' 3 (by rfl); have c3 := ev_get b3
              obtain ⟨x0, x1, _, _⟩ := two_cells_of ((hj.block _ hlt0).trans hbox)
              exact iv_val (v := .agg #[.string e.name, .int .i64 e.print]) (by simp [execOp, c3, x0, x1, go_sem, Result.andThen]) ⟨_, rfl, hj, .inl rfl, rfl⟩
            · have v5 : a'.eval (.tmp 55) = .agg #[.string e.name, .int .i64 e.print] := hd ⟨5, .data⟩ (by simp) rfl (by intro j _ hc; revert hc; unfold peCons; simp; try omega); have u5 := ev_get v5
              exact iv_val (v := .slice (some ⟨wk.heap.size, 0, none⟩) 1 1) (w' := wk.alloc (.cells #[.string e.name, .int .i64 e.print] 81)) (by simp [execOp, u5, go_sem, Result.andThen]) ⟨_, rfl, hj.alloc hj.size _, .inr (.inl ((Below.refl _ _).alloc (Nat.le_refl _) _)), (show isLitE _ _ _ _ from ⟨_, rfl, hj.size, heap_alloc_new _ _⟩)⟩
            · have e4 : isOwnE W0.heap.size ([] ++ xs.take k) (a'.eval (.tmp 54)) wk := hd ⟨4, .data⟩ (by simp) rfl (by intro j _ hc; revert hc; unfold peCons; simp; try omega)
              have e8 : isLitE W0.heap.size e (a'.eval (.tmp 56)) wk := hd ⟨6, .data⟩ (by simp) rfl (by intro j _ hc; revert hc; unfold peCons; simp; try omega)
              obtain ⟨b8, v8, hb8, hh8⟩ := e8
              obtain ⟨i0, hi0, hz0, hz1, hz2⟩ := info_parts info_ent
              refine wp_cat (enc := encE) wk (.tmp 54) (.tmp 56) 67 rfl W0.heap.size 81 i0 _ 2 24 Tryz.underlying67 hi0 hz0 hz1 hz2 rfl (by decide) (a'.eval (.tmp 54)) (.slice (some ⟨b8, 0, none⟩) 1 1) ([] ++ xs.take k) [e] rfl v8 e4 _ (lit_rdE hh8) encE_one (by have := HN.out; simp <;> omega) (by decide) hj.size ?_
              intro v' w' ho hg hg'
              exact ⟨_, rfl, hj.grown hg hj.size (fun g hg1 => (Own.lt e4 g hg1).1), .inr (.inr (.inr (.inl rfl))), (show isOwnE _ _ _ _ from ho)⟩
            · have b7 : a'.eval (.tmp 7) = (.slice ra (n - (k + 1)) (c - (k + 1))) := hb' 7 (by rfl); have c7 := ev_get b7
              exact iv_val (v := (.slice ra (n - (k + 1)) (c - (k + 1)))) (by simp [execOp, b7]) ⟨_, rfl, hj, .inl rfl, (show isRdE W0 (xs.drop (k + 1)) _ wk from hbk)⟩
            · have e9 : isOwnE W0.heap.size ([] ++ xs.take k ++ [e]) (a'.eval (.tmp 57)) wk := hd ⟨7, .data⟩ (by simp) rfl (by intro j _ hc; revert hc; unfold peCons; simp; try omega)
              have e12 : isRdE W0 (xs.drop (k + 1)) (a'.eval (.tmp 58)) wk := hd ⟨8, .data⟩ (by simp) rfl (by intro j _ hc; revert hc; unfold peCons; simp; try omega)
              obtain ⟨i0, hi0, hz0, hz1, hz2⟩ := info_parts info_ent
              obtain ⟨g9, cs9, hg9, hh9, hs9⟩ := own_rowE e9 (by simp)
              refine wp_cat (enc := encE) wk (.tmp 57) (.tmp 58) 67 rfl W0.heap.size 81 i0 _ 2 24 Tryz.underlying67 hi0 hz0 hz1 hz2 rfl (by decide) (a'.eval (.tmp 57)) (a'.eval (.tmp 58)) ([] ++ xs.take k ++ [e]) (xs.drop (k + 1)) rfl rfl e9 _ (Rd.below e12 hj (Nat.le_refl _)) encE_one (by have := HN.out; simp <;> omega) (by decide) hj.size ?_
              intro v' w' ho hg hg'
              exact ⟨_, rfl, hj.grown hg hj.size (fun g hg1 => (Own.lt e9 g hg1).1), .inr (.inr (.inr (.inr ⟨rfl, g9, cs9, hh9, hs9, hg9 ▸ hg⟩))), (show isOwnE _ _ _ _ from ho)⟩
            · have e13 : isOwnE W0.heap.size ([] ++ xs.take k ++ [e] ++ (xs.drop (k + 1))) (a'.eval (.tmp 59)) wk := hd ⟨9, .data⟩ (by simp) rfl (by intro j _ hc; revert hc; unfold peCons; simp; try omega)
              exact iv_val (v := a'.eval (.tmp 59)) (by simp [execOp]) ⟨_, rfl, hj, .inl rfl, e13⟩
          case fin =>
            intro tm w4 hj hF
            have o15 : OwnE w4 W0.heap.size (tm.getD 8 undef) ([] ++ xs.take k ++ [e] ++ (xs.drop (k + 1))) := hF 10 _ rfl (fun j => by unfold peCons; simp)
            rw [List.nil_append] at o15
            clear hF
            simp only [refillL, List.setIfInBounds_toArray, List.set_cons_succ, List.set_cons_zero]
            obtain ⟨sv, hsv⟩ : ∃ sv, tm.getD 8 undef = sv := ⟨_, rfl⟩
            rw [hsv] at o15 ⊢
            rw [HPE.out] at o15
            clear hsv
            have HO15 := hid o15
            have HJ := hid hj
            clear o15 hj hfr hbk hbox
            cases hpe : entsOk (putE xs e)
            · have HO := hid (show putEnt xs e = (xs, false) by unfold putEnt; rw [HK.out, hpe]; rfl)
              have HPK := hid hpe
              clear hpe
              go_wp2_with fail
              refine (spec_EntriesValid_c _ (putE xs e) _ _ (Rd.of_own HO15.out) HPX.out HPL.out).mono ?_
              rw [HPK.out]
              rintro e' w5 ⟨rfl, z5, rfl⟩
              have d5 := bl_drewN HJ.out z5
              go_wp2_with (at_builtin; refine wpList_cat (enc := encE) (w0 := W0) rfl _ _ 67 rfl (w4.drewN z5).heap.size W0.heap.size 81 i0 _ 2 24 Tryz.underlying67 hi0 hz0 hz1 hz2 rfl (by decide) _ _ [] xs (Own.made _ (Nat.le_refl _)) _ ((HH.out.below d5 (Nat.le_refl _)).below ((Below.refl _ _).alloc (Nat.le_refl _) _) d5.size) (d5.alloc d5.size _) (by simp) d5.size rfl rfl encE_one (by have := HN.out; simp; omega) (by decide) ?_; intro v' w' hown' hb' hB' hg')
              go_ret2
              exact ⟨v', by rw [HO.out]; rfl, by rw [HO.out]; exact hown'.less (Nat.le_trans hB0 d5.size), bl_then d0 hb'⟩
            · have HO := hid (show putEnt xs e = (putE xs e, true) by unfold putEnt; rw [HK.out, hpe]; rfl)
              have HPK := hid hpe
              clear hpe
              go_wp2_with fail
              refine (spec_EntriesValid_c _ (putE xs e) _ _ (Rd.of_own HO15.out) HPX.out HPL.out).mono ?_
              rw [HPK.out]
              rintro e' w5 ⟨rfl, z5, rfl⟩
              go_wp2
              go_ret2
              exact ⟨sv, by rw [HO.out]; rfl, by rw [HO.out]; exact (HO15.out.less hB0).drewN z5, bl_then d0 (bl_drewN HJ.out z5)⟩
        · have hd2 : (t.toList == e.name.toList) = false := by rw [hs]; exact decide_eq_false hte
          have HIS := hid (show isNm xs e.name k = false by
            cases hh : isNm xs e.name k
            · rfl
            · obtain ⟨y, hy, hyn⟩ := isNm_iff.1 hh
              rw [hx.out] at hy
              obtain rfl := Option.some.inj hy
              exact absurd hyn hte)
          have HPE := hid (show xs.take k ++ [e] ++ xs.drop k = putE xs e by rw [putE_eq, HQ.out]; unfold behind; rw [HQ.out, HIS.out]; simp)
          clear hs hte
          go_wp2
          go_quiet (fail)
          go_wp2
          go_quiet (fail)
          go_wp2
          refine drew_out W1 (by first | exact ⟨_, rfl⟩ | exact ⟨_, World.drewN_drewN _ _ _⟩) ?_
          rintro W0 ⟨z0, hW0⟩
          have d0 : Below w.heap.size w W0 := by rw [hW0]; exact bl_drewN d1 _
          have hB0 : w.heap.size ≤ W0.heap.size := d0.size
          have HH : Hid (Ents W0 W0.heap.size (.slice (some ⟨b, o, none⟩) n c) xs) := by rw [hW0]; exact (H1.out.drewN _).more (by have := d1.size; simpa using this)
          have hbox : W0.heap[w.heap.size]? = some (.cells #[.string e.name, .int .i64 e.print] 81 (0, 0)) := by rw [hW0]; exact HBX.out
          have hlt0 := (Array.getElem?_eq_some_iff.1 hbox).1
          have hfr := HH.out.frontE HN.out (q := k) (by omega)
          have hbk := HH.out.backE HN.out (q := k) (by omega)
          rw [show (if c = k then (some ⟨b, o, none⟩) else ((some ⟨b, o, none⟩) : Option Addr).map (fun (x : Addr) => x.add ((k) * 2))) = some ⟨b, o + k * 2, none⟩ by rw [if_neg (by omega)]; simp [Addr.add]] at hbk
          refine wp_region_inv3d rfl (by kernel_rfl) (by kernel_rfl) (by kernel_rfl) (by kernel_rfl) (by simp) (fun _ w' => Below W0.heap.size W0 w') (fun j w' w'' => peS j w' w'') (fact (peF W0 (.slice (some ⟨b, o, none⟩) n c) xs k e (xs.drop k))) peCons (Below.refl _ _).drew ?hF ?grd ?oo ?cg ?fin
          case hF =>
            intro j i v w' w'' hS hc hne hwt hdp hf
            have hi : i < 11 ∨ 11 ≤ i := by omega
            rcases hi with hi | hi
            · obtain rfl | rfl | rfl | rfl | rfl | rfl | rfl | rfl | rfl | rfl | rfl : i = 0 ∨ i = 1 ∨ i = 2 ∨ i = 3 ∨ i = 4 ∨ i = 5 ∨ i = 6 ∨ i = 7 ∨ i = 8 ∨ i = 9 ∨ i = 10 := by omega
              · rcases hS with rfl | hb | ⟨rfl, b, hh, hg⟩ | rfl | ⟨rfl, g, cs, hh, hs, hg⟩
                · exact hf
                · obtain ⟨b0, h1, h2, h3, h4⟩ := hf; exact ⟨b0, h1, h2, (hb.block b0 (Array.getElem?_eq_some_iff.1 h3).1).trans h3, h4.on hb⟩
                · simp [peCons] at hc
                · have h9 := hdp _ rfl ⟨4, .data⟩ (by simp) rfl; simp [peCons] at h9
                · obtain ⟨b0, h1, h2, h3, h4⟩ := hf
                  have hne' : b0 ≠ g := by rintro rfl; rw [h3] at hh; simp at hh; subst hh; simp at hs
                  exact ⟨b0, h1, h2, (hg.block b0 (Array.getElem?_eq_some_iff.1 h3).1 (some_ne' hne')).trans h3, h4.kept hg (.inr (by rw [h1]; exact some_ne' hne'))⟩
              · exact hf
              · exact hf
              · exact hf
              · rcases hS with rfl | hb | ⟨rfl, b, hh, hg⟩ | rfl | ⟨rfl, g, cs, hh, hs, hg⟩
                · exact hf
                · exact Own.on hf hb
                · exact absurd rfl hne
                · simp [peCons] at hc
                · have h9 := hdp _ rfl ⟨7, .data⟩ (by simp) rfl; simp [peCons] at h9
              · exact hf
              · rcases hS with rfl | hb | ⟨rfl, b, hh, hg⟩ | rfl | ⟨rfl, g, cs, hh, hs, hg⟩
                · exact hf
                · obtain ⟨b0, h1, h2, h3⟩ := hf; exact ⟨b0, h1, h2, (hb.block b0 (Array.getElem?_eq_some_iff.1 h3).1).trans h3⟩
                · obtain ⟨b0, h1, h2, h3⟩ := hf; exact ⟨b0, h1, h2, (hg.block b0 (Array.getElem?_eq_some_iff.1 h3).1 (some_ne' (by rintro rfl; rw [hh] at h3; simp at h3))).trans h3⟩
                · simp [peCons] at hc
                · have h9 := hdp _ rfl ⟨7, .data⟩ (by simp) rfl; simp [peCons] at h9
              · rcases hS with rfl | hb | ⟨rfl, b, hh, hg⟩ | rfl | ⟨rfl, g, cs, hh, hs, hg⟩
                · exact hf
                · exact Own.on hf hb
                · exact own_far_empE hf hh hg (by simp <;> omega)
                · exact absurd rfl hne
                · simp [peCons] at hc
              · exact hf
              · rcases hS with rfl | hb | ⟨rfl, b, hh, hg⟩ | rfl | ⟨rfl, g, cs, hh, hs, hg⟩
                · exact hf
                · exact Own.on hf hb
                · exact own_far_empE hf hh hg (by simp <;> omega)
                · exact absurd (hwt.symm.trans (c := true) (by kernel_rfl)) (by decide)
                · exact absurd rfl hne
              · rcases hS with rfl | hb | ⟨rfl, b, hh, hg⟩ | rfl | ⟨rfl, g, cs, hh, hs, hg⟩
                · exact hf
                · exact Own.on hf hb
                · exact own_far_empE hf hh hg (by simp <;> omega)
                · exact absurd (hwt.symm.trans (c := true) (by kernel_rfl)) (by decide)
                · exact absurd (hwt.symm.trans (c := true) (by kernel_rfl)) (by decide)
            · unfold fact at *; rw [List.getD_eq_getElem?_getD, List.getElem?_eq_none (by simpa [peF] using hi)]; trivial
          case grd =>
            intro i oo d bb hi hg v w' hf
            obtain ⟨hlt1, rfl⟩ := Array.getElem?_eq_some_iff.1 hi
            have hlt' : i < 11 := hlt1
            clear hi
            obtain rfl | rfl | rfl | rfl | rfl | rfl | rfl | rfl | rfl | rfl | rfl : i = 0 ∨ i = 1 ∨ i = 2 ∨ i = 3 ∨ i = 4 ∨ i = 5 ∨ i = 6 ∨ i = 7 ∨ i = 8 ∨ i = 9 ∨ i = 10 := by omega
            all_goals simp at hg
          case cg =>
            intro i oo d bb hi hg j
            obtain ⟨hlt1, rfl⟩ := Array.getElem?_eq_some_iff.1 hi
            have hlt' : i < 11 := hlt1
            clear hi
            obtain rfl | rfl | rfl | rfl | rfl | rfl | rfl | rfl | rfl | rfl | rfl : i = 0 ∨ i = 1 ∨ i = 2 ∨ i = 3 ∨ i = 4 ∨ i = 5 ∨ i = 6 ∨ i = 7 ∨ i = 8 ∨ i = 9 ∨ i = 10 := by omega
            all_goals simp at hg
          case oo =>
            intro i oo hi qn a' wk hnn hj hb' hd
            obtain ⟨hlt1, rfl⟩ := Array.getElem?_eq_some_iff.1 hi
            have hlt' : i < 11 := hlt1
            clear hi
            obtain rfl | rfl | rfl | rfl | rfl | rfl | rfl | rfl | rfl | rfl | rfl : i = 0 ∨ i = 1 ∨ i = 2 ∨ i = 3 ∨ i = 4 ∨ i = 5 ∨ i = 6 ∨ i = 7 ∨ i = 8 ∨ i = 9 ∨ i = 10 := by omega
            · exact iv_val (v := .slice (some ⟨wk.heap.size, 0, none⟩) 0 0) (w' := wk.alloc (.cells #[] 81)) (by simp [execOp, go_sem, Result.andThen]) ⟨_, rfl, hj.alloc hj.size _, .inr (.inl ((Below.refl _ _).alloc (Nat.le_refl _) _)), (show isEmpE _ _ _ from ⟨_, rfl, hj.size, heap_alloc_new _ _, Own.made _ hj.size⟩)⟩
            · have b0 : a'.eval (.tmp 0) = .slice (some ⟨b, o, none⟩) n c := hb' 0 (by rfl); have c0 := ev_get b0
              exact iv_val (v := .slice (some ⟨b, o, none⟩) n c) (by simp [execOp, b0]) ⟨_, rfl, hj, .inl rfl, rfl⟩
            · have b6 : a'.eval (.tmp 6) = .int .i64 k := hb' 6 (by rfl); have c6 := ev_get b6
              exact iv_val (v := .int .i64 k) (by simp [execOp, b6]) ⟨_, rfl, hj, .inl rfl, rfl⟩
            · have v1 : a'.eval (.tmp 51) = .slice (some ⟨b, o, none⟩) n c := hd ⟨1, .data⟩ (by simp) rfl (by intro j _ hc; revert hc; unfold peCons; simp; try omega); have u1 := ev_get v1
              have v2 : a'.eval (.tmp 52) = .int .i64 k := hd ⟨2, .data⟩ (by simp) rfl (by intro j _ hc; revert hc; unfold peCons; simp; try omega); have u2 := ev_get v2
              exact iv_val (v := .slice (some ⟨b, o, none⟩) k c) (by simp [execOp, u1, u2, hqc, go_sem, Result.andThen]) ⟨_, rfl, hj, .inl rfl, (show isRdE W0 (xs.take k) _ wk from hfr)⟩
            · have e0 : isEmpE W0.heap.size (a'.eval (.tmp 50)) wk := hd ⟨0, .data⟩ (by simp) rfl (by intro j _ hc; revert hc; unfold peCons; simp; try omega)
              obtain ⟨b0, v0, hb0, hh0, o0⟩ := e0
              have e3 : isRdE W0 (xs.take k) (a'.eval (.tmp 53)) wk := hd ⟨3, .data⟩ (by simp) rfl (by intro j _ hc; revert hc; unfold peCons; simp; try omega)
              obtain ⟨i0, hi0, hz0, hz1, hz2⟩ := info_parts info_ent
              refine wp_cat (enc := encE) wk (.tmp 50) (.tmp 53) 67 rfl W0.heap.size 81 i0 _ 2 24 Tryz.underlying67 hi0 hz0 hz1 hz2 rfl (by decide) (a'.eval (.tmp 50)) (a'.eval (.tmp 53)) [] (xs.take k) rfl rfl o0 _ (Rd.below e3 hj (Nat.le_refl _)) encE_one (by have := HN.out; simp <;> omega) (by decide) hj.size ?_
              intro v' w' ho hg hg'
              rw [v0] at hg
              exact ⟨_, rfl, hj.grown hg hj.size (fun g hg1 => by simp [Value.ownBlock] at hg1; omega), .inr (.inr (.inl ⟨rfl, b0, hh0, hg⟩)), (show isOwnE _ _ _ _ from ho)⟩
            · have b3 : a'.eval (.tmp 3) = .pointer (some ⟨w.heap.size, 0, none⟩) := hb' 3 (by rfl); have c3 := ev_get b3
              obtain ⟨x0, x1, _, _⟩ := two_cells_of ((hj.block _ hlt0).trans hbox)
              exact iv_val (v := .agg #[.string e.name, .int .i64 e.print]) (by simp [execOp, c3, x0, x1, go_sem, Result.andThen]) ⟨_, rfl, hj, .inl rfl, rfl⟩
            · have v5 : a'.eval (.tmp 55) = .agg #[.string e.name, .int .i64 e.print] := hd ⟨5, .data⟩ (by simp) rfl (by intro j _ hc; revert hc; unfold peCons; simp; try omega); have u5 := ev_get v5
              exact iv_val (v := .slice (some ⟨wk.heap.size, 0, none⟩) 1 1) (w' := wk.alloc (.cells #[.string e.name, .int .i64 e.print] 81)) (by simp [execOp, u5, go_sem, Result.andThen]) ⟨_, rfl, hj.alloc hj.size _, .inr (.inl ((Below.refl _ _).alloc (Nat.le_refl _) _)), (show isLitE _ _ _ _ from ⟨_, rfl, hj.size, heap_alloc_new _ _⟩)⟩
            · have e4 : isOwnE W0.heap.size ([] ++ xs.take k) (a'.eval (.tmp 54)) wk := hd ⟨4, .data⟩ (by simp) rfl (by intro j _ hc; revert hc; unfold peCons; simp; try omega)
              have e8 : isLitE W0.heap.size e (a'.eval (.tmp 56)) wk := hd ⟨6, .data⟩ (by simp) rfl (by intro j _ hc; revert hc; unfold peCons; simp; try omega)
              obtain ⟨b8, v8, hb8, hh8⟩ := e8
              obtain ⟨i0, hi0, hz0, hz1, hz2⟩ := info_parts info_ent
              refine wp_cat (enc := encE) wk (.tmp 54) (.tmp 56) 67 rfl W0.heap.size 81 i0 _ 2 24 Tryz.underlying67 hi0 hz0 hz1 hz2 rfl (by decide) (a'.eval (.tmp 54)) (.slice (some ⟨b8, 0, none⟩) 1 1) ([] ++ xs.take k) [e] rfl v8 e4 _ (lit_rdE hh8) encE_one (by have := HN.out; simp <;> omega) (by decide) hj.size ?_
              intro v' w' ho hg hg'
              exact ⟨_, rfl, hj.grown hg hj.size (fun g hg1 => (Own.lt e4 g hg1).1), .inr (.inr (.inr (.inl rfl))), (show isOwnE _ _ _ _ from ho)⟩
            · have b7 : a'.eval (.tmp 7) = (.slice (some ⟨b, o + k * 2, none⟩) (n - k) (c - k)) := hb' 7 (by rfl); have c7 := ev_get b7
              exact iv_val (v := (.slice (some ⟨b, o + k * 2, none⟩) (n - k) (c - k))) (by simp [execOp, b7]) ⟨_, rfl, hj, .inl rfl, (show isRdE W0 (xs.drop k) _ wk from hbk)⟩
            · have e9 : isOwnE W0.heap.size ([] ++ xs.take k ++ [e]) (a'.eval (.tmp 57)) wk := hd ⟨7, .data⟩ (by simp) rfl (by intro j _ hc; revert hc; unfold peCons; simp; try omega)
              have e12 : isRdE W0 (xs.drop k) (a'.eval (.tmp 58)) wk := hd ⟨8, .data⟩ (by simp) rfl (by intro j _ hc; revert hc; unfold peCons; simp; try omega)
              obtain ⟨i0, hi0, hz0, hz1, hz2⟩ := info_parts info_ent
              obtain ⟨g9, cs9, hg9, hh9, hs9⟩ := own_rowE e9 (by simp)
              refine wp_cat (enc := encE) wk (.tmp 57) (.tmp 58) 67 rfl W0.heap.size 81 i0 _ 2 24 Tryz.underlying67 hi0 hz0 hz1 hz2 rfl (by decide) (a'.eval (.tmp 57)) (a'.eval (.tmp 58)) ([] ++ xs.take k ++ [e]) (xs.drop k) rfl rfl e9 _ (Rd.below e12 hj (Nat.le_refl _)) encE_one (by have := HN.out; simp <;> omega) (by decide) hj.size ?_
              intro v' w' ho hg hg'
              exact ⟨_, rfl, hj.grown hg hj.size (fun g hg1 => (Own.lt e9 g hg1).1), .inr (.inr (.inr (.inr ⟨rfl, g9, cs9, hh9, hs9, hg9 ▸ hg⟩))), (show isOwnE _ _ _ _ from ho)⟩
            · have e13 : isOwnE W0.heap.size ([] ++ xs.take k ++ [e] ++ (xs.drop k)) (a'.eval (.tmp 59)) wk := hd ⟨9, .data⟩ (by simp) rfl (by intro j _ hc; revert hc; unfold peCons; simp; try omega)
              exact iv_val (v := a'.eval (.tmp 59)) (by simp [execOp]) ⟨_, rfl, hj, .inl rfl, e13⟩
          case fin =>
            intro tm w4 hj hF
            have o15 : OwnE w4 W0.heap.size (tm.getD 8 undef) ([] ++ xs.take k ++ [e] ++ (xs.drop k)) := hF 10 _ rfl (fun j => by unfold peCons; simp)
            rw [List.nil_append] at o15
            clear hF
            simp only [refillL, List.setIfInBounds_toArray, List.set_cons_succ, List.set_cons_zero]
            obtain ⟨sv, hsv⟩ : ∃ sv, tm.getD 8 undef = sv := ⟨_, rfl⟩
            rw [hsv] at o15 ⊢
            rw [HPE.out] at o15
            clear hsv
            have HO15 := hid o15
            have HJ := hid hj
            clear o15 hj hfr hbk hbox
            cases hpe : entsOk (putE xs e)
            · have HO := hid (show putEnt xs e = (xs, false) by unfold putEnt; rw [HK.out, hpe]; rfl)
              have HPK := hid hpe
              clear hpe
              go_wp2_with fail
              refine (spec_EntriesValid_c _ (putE xs e) _ _ (Rd.of_own HO15.out) HPX.out HPL.out).mono ?_
              rw [HPK.out]
              rintro e' w5 ⟨rfl, z5, rfl⟩
              have d5 := bl_drewN HJ.out z5
              go_wp2_with (at_builtin; refine wpList_cat (enc := encE) (w0 := W0) rfl _ _ 67 rfl (w4.drewN z5).heap.size W0.heap.size 81 i0 _ 2 24 Tryz.underlying67 hi0 hz0 hz1 hz2 rfl (by decide) _ _ [] xs (Own.made _ (Nat.le_refl _)) _ ((HH.out.below d5 (Nat.le_refl _)).below ((Below.refl _ _).alloc (Nat.le_refl _) _) d5.size) (d5.alloc d5.size _) (by simp) d5.size rfl rfl encE_one (by have := HN.out; simp; omega) (by decide) ?_; intro v' w' hown' hb' hB' hg')
              go_ret2
              exact ⟨v', by rw [HO.out]; rfl, by rw [HO.out]; exact hown'.less (Nat.le_trans hB0 d5.size), bl_then d0 hb'⟩
            · have HO := hid (show putEnt xs e = (putE xs e, true) by unfold putEnt; rw [HK.out, hpe]; rfl)
              have HPK := hid hpe
              clear hpe
              go_wp2_with fail
              refine (spec_EntriesValid_c _ (putE xs e) _ _ (Rd.of_own HO15.out) HPX.out HPL.out).mono ?_
              rw [HPK.out]
              rintro e' w5 ⟨rfl, z5, rfl⟩
              go_wp2
              go_ret2
              exact ⟨sv, by rw [HO.out]; rfl, by rw [HO.out]; exact (HO15.out.less hB0).drewN z5, bl_then d0 (bl_drewN HJ.out z5)⟩
      · have hd0 : decide (k < n) = false := by simp; omega
        have HIS := hid (show isNm xs e.name k = false by
          cases hh : isNm xs e.name k
          · rfl
          · obtain ⟨y, hy, hyn⟩ := isNm_iff.1 hh
            have := (List.getElem?_eq_some_iff.1 hy).1
            have := HN.out
            omega)
        have HPE := hid (show xs.take k ++ [e] ++ xs.drop k = putE xs e by rw [putE_eq, HQ.out]; unfold behind; rw [HQ.out, HIS.out]; simp)
        obtain ⟨ra, hra⟩ : ∃ ra : Option Addr, (if c = k then a else Option.map (fun (x : Addr) => x.add (k * 2)) a) = ra := ⟨_, rfl⟩
        clear h3'
        go_wp2
        go_quiet (fail)
        go_wp2
        go_quiet (fail)
        go_wp2
        refine drew_out W1 (by first | exact ⟨_, rfl⟩ | exact ⟨_, World.drewN_drewN _ _ _⟩) ?_
        rintro W0 ⟨z0, hW0⟩
        have d0 : Below w.heap.size w W0 := by rw [hW0]; exact bl_drewN d1 _
        have hB0 : w.heap.size ≤ W0.heap.size := d0.size
        have HH : Hid (Ents W0 W0.heap.size (.slice a n c) xs) := by rw [hW0]; exact (H1.out.drewN _).more (by have := d1.size; simpa using this)
        have hbox : W0.heap[w.heap.size]? = some (.cells #[.string e.name, .int .i64 e.print] 81 (0, 0)) := by rw [hW0]; exact HBX.out
        have hlt0 := (Array.getElem?_eq_some_iff.1 hbox).1
        have hfr := HH.out.frontE HN.out (q := k) (by omega)
        have hbk := HH.out.backE HN.out (q := k) (by omega)
        rw [show (if c = k then a else (a : Option Addr).map (fun (x : Addr) => x.add ((k) * 2))) = ra by rw [← hra]] at hbk
        refine wp_region_inv3d rfl (by kernel_rfl) (by kernel_rfl) (by kernel_rfl) (by kernel_rfl) (by simp) (fun _ w' => Below W0.heap.size W0 w') (fun j w' w'' => peS j w' w'') (fact (peF W0 (.slice a n c) xs k e (xs.drop k))) peCons (Below.refl _ _).drew ?hF ?grd ?oo ?cg ?fin
        case hF =>
          intro j i v w' w'' hS hc hne hwt hdp hf
          have hi : i < 11 ∨ 11 ≤ i := by omega
          rcases hi with hi | hi
          · obtain rfl | rfl | rfl | rfl | rfl | rfl | rfl | rfl | rfl | rfl | rfl : i = 0 ∨ i = 1 ∨ i = 2 ∨ i = 3 ∨ i = 4 ∨ i = 5 ∨ i = 6 ∨ i = 7 ∨ i = 8 ∨ i = 9 ∨ i = 10 := by omega
            · rcases hS with rfl | hb | ⟨rfl, b, hh, hg⟩ | rfl | ⟨rfl, g, cs, hh, hs, hg⟩
              · exact hf
              · obtain ⟨b0, h1, h2, h3, h4⟩ := hf; exact ⟨b0, h1, h2, (hb.block b0 (Array.getElem?_eq_some_iff.1 h3).1).trans h3, h4.on hb⟩
              · simp [peCons] at hc
              · have h9 := hdp _ rfl ⟨4, .data⟩ (by simp) rfl; simp [peCons] at h9
              · obtain ⟨b0, h1, h2, h3, h4⟩ := hf
                have hne' : b0 ≠ g := by rintro rfl; rw [h3] at hh; simp at hh; subst hh; simp at hs
                exact ⟨b0, h1, h2, (hg.block b0 (Array.getElem?_eq_some_iff.1 h3).1 (some_ne' hne')).trans h3, h4.kept hg (.inr (by rw [h1]; exact some_ne' hne'))⟩
            · exact hf
            · exact hf
            · exact hf
            · rcases hS with rfl | hb | ⟨rfl, b, hh, hg⟩ | rfl | ⟨rfl, g, cs, hh, hs, hg⟩
              · exact hf
              · exact Own.on hf hb
              · exact absurd rfl hne
              · simp [peCons] at hc
              · have h9 := hdp _ rfl ⟨7, .data⟩ (by simp) rfl; simp [peCons] at h9
            · exact hf
            · rcases hS with rfl | hb | ⟨rfl, b, hh, hg⟩ | rfl | ⟨rfl, g, cs, hh, hs, hg⟩
              · exact hf
              · obtain ⟨b0, h1, h2, h3⟩ := hf; exact ⟨b0, h1, h2, (hb.block b0 (Array.getElem?_eq_some_iff.1 h3).1).trans h3⟩
              · obtain ⟨b0, h1, h2, h3⟩ := hf; exact ⟨b0, h1, h2, (hg.block b0 (Array.getElem?_eq_some_iff.1 h3).1 (some_ne' (by rintro rfl; rw [hh] at h3; simp at h3))).trans h3⟩
              · simp [peCons] at hc
              · have h9 := hdp _ rfl ⟨7, .data⟩ (by simp) rfl; simp [peCons] at h9
            · rcases hS with rfl | hb | ⟨rfl, b, hh, hg⟩ | rfl | ⟨rfl, g, cs, hh, hs, hg⟩
              · exact hf
              · exact Own.on hf hb
              · exact own_far_empE hf hh hg (by simp <;> omega)
              · exact absurd rfl hne
              · simp [peCons] at hc
            · exact hf
            · rcases hS with rfl | hb | ⟨rfl, b, hh, hg⟩ | rfl | ⟨rfl, g, cs, hh, hs, hg⟩
              · exact hf
              · exact Own.on hf hb
              · exact own_far_empE hf hh hg (by simp <;> omega)
              · exact absurd (hwt.symm.trans (c := true) (by kernel_rfl)) (by decide)
              · exact absurd rfl hne
            · rcases hS with rfl | hb | ⟨rfl, b, hh, hg⟩ | rfl | ⟨rfl, g, cs, hh, hs, hg⟩
              · exact hf
              · exact Own.on hf hb
              · exact own_far_empE hf hh hg (by simp <;> omega)
              · exact absurd (hwt.symm.trans (c := true) (by kernel_rfl)) (by decide)
              · exact absurd (hwt.symm.trans (c := true) (by kernel_rfl)) (by decide)
          · unfold fact at *; rw [List.getD_eq_getElem?_getD, List.getElem?_eq_none (by simpa [peF] using hi)]; trivial
        case grd =>
          intro i oo d bb hi hg v w' hf
          obtain ⟨hlt1, rfl⟩ := Array.getElem?_eq_some_iff.1 hi
          have hlt' : i < 11 := hlt1
          clear hi
          obtain rfl | rfl | rfl | rfl | rfl | rfl | rfl | rfl | rfl | rfl | rfl : i = 0 ∨ i = 1 ∨ i = 2 ∨ i = 3 ∨ i = 4 ∨ i = 5 ∨ i = 6 ∨ i = 7 ∨ i = 8 ∨ i = 9 ∨ i = 10 := by omega
          all_goals simp at hg
        case cg =>
          intro i oo d bb hi hg j
          obtain ⟨hlt1, rfl⟩ := Array.getElem?_eq_some_iff.1 hi
          have hlt' : i < 11 := hlt1
          clear hi
          obtain rfl | rfl | rfl | rfl | rfl | rfl | rfl | rfl | rfl | rfl | rfl : i = 0 ∨ i = 1 ∨ i = 2 ∨ i = 3 ∨ i = 4 ∨ i = 5 ∨ i = 6 ∨ i = 7 ∨ i = 8 ∨ i = 9 ∨ i = 10 := by omega
          all_goals simp at hg
        case oo =>
          intro i oo hi qn a' wk hnn hj hb' hd
          obtain ⟨hlt1, rfl⟩ := Array.getElem?_eq_some_iff.1 hi
          have hlt' : i < 11 := hlt1
          clear hi
          obtain rfl | rfl | rfl | rfl | rfl | rfl | rfl | rfl | rfl | rfl | rfl : i = 0 ∨ i = 1 ∨ i = 2 ∨ i = 3 ∨ i = 4 ∨ i = 5 ∨ i = 6 ∨ i = 7 ∨ i = 8 ∨ i = 9 ∨ i = 10 := by omega
          · exact iv_val (v := .slice (some ⟨wk.heap.size, 0, none⟩) 0 0) (w' := wk.alloc (.cells #[] 81)) (by simp [execOp, go_sem, Result.andThen]) ⟨_, rfl, hj.alloc hj.size _, .inr (.inl ((Below.refl _ _).alloc (Nat.le_refl _) _)), (show isEmpE _ _ _ from ⟨_, rfl, hj.size, heap_alloc_new _ _, Own.made _ hj.size⟩)⟩
          · have b0 : a'.eval (.tmp 0) = .slice a n c := hb' 0 (by rfl); have c0 := ev_get b0
            exact iv_val (v := .slice a n c) (by simp [execOp, b0]) ⟨_, rfl, hj, .inl rfl, rfl⟩
          · have b6 : a'.eval (.tmp 6) = .int .i64 k := hb' 6 (by rfl); have c6 := ev_get b6
            exact iv_val (v := .int .i64 k) (by simp [execOp, b6]) ⟨_, rfl, hj, .inl rfl, rfl⟩
          · have v1 : a'.eval (.tmp 51) = .slice a n c := hd ⟨1, .data⟩ (by simp) rfl (by intro j _ hc; revert hc; unfold peCons; simp; try omega); have u1 := ev_get v1
            have v2 : a'.eval (.tmp 52) = .int .i64 k := hd ⟨2, .data⟩ (by simp) rfl (by intro j _ hc; revert hc; unfold peCons; simp; try omega); have u2 := ev_get v2
            exact iv_val (v := .slice a k c) (by simp [execOp, u1, u2, hqc, go_sem, Result.andThen]) ⟨_, rfl, hj, .inl rfl, (show isRdE W0 (xs.take k) _ wk from hfr)⟩
          · have e0 : isEmpE W0.heap.size (a'.eval (.tmp 50)) wk := hd ⟨0, .data⟩ (by simp) rfl (by intro j _ hc; revert hc; unfold peCons; simp; try omega)
            obtain ⟨b0, v0, hb0, hh0, o0⟩ := e0
            have e3 : isRdE W0 (xs.take k) (a'.eval (.tmp 53)) wk := hd ⟨3, .data⟩ (by simp) rfl (by intro j _ hc; revert hc; unfold peCons; simp; try omega)
            obtain ⟨i0, hi0, hz0, hz1, hz2⟩ := info_parts info_ent
            refine wp_cat (enc := encE) wk (.tmp 50) (.tmp 53) 67 rfl W0.heap.size 81 i0 _ 2 24 Tryz.underlying67 hi0 hz0 hz1 hz2 rfl (by decide) (a'.eval (.tmp 50)) (a'.eval (.tmp 53)) [] (xs.take k) rfl rfl o0 _ (Rd.below e3 hj (Nat.le_refl _)) encE_one (by have := HN.out; simp <;> omega) (by decide) hj.size ?_
            intro v' w' ho hg hg'
            rw [v0] at hg
            exact ⟨_, rfl, hj.grown hg hj.size (fun g hg1 => by simp [Value.ownBlock] at hg1; omega), .inr (.inr (.inl ⟨rfl, b0, hh0, hg⟩)), (show isOwnE _ _ _ _ from ho)⟩
          · have b3 : a'.eval (.tmp 3) = .pointer (some ⟨w.heap.size, 0, none⟩) := hb' 3 (by rfl); have c3 := ev_get b3
            obtain ⟨x0, x1, _, _⟩ := two_cells_of ((hj.block _ hlt0).trans hbox)
            exact iv_val (v := .agg #[.string e.name, .int .i64 e.print]) (by simp [execOp, c3, x0, x1, go_sem, Result.andThen]) ⟨_, rfl, hj, .inl rfl, rfl⟩
          · have v5 : a'.eval (.tmp 55) = .agg #[.string e.name, .int .i64 e.print] := hd ⟨5, .data⟩ (by simp) rfl (by intro j _ hc; revert hc; unfold peCons; simp; try omega); have u5 := ev_get v5
            exact iv_val (v := .slice (some ⟨wk.heap.size, 0, none⟩) 1 1) (w' := wk.alloc (.cells #[.string e.name, .int .i64 e.print] 81)) (by simp [execOp, u5, go_sem, Result.andThen]) ⟨_, rfl, hj.alloc hj.size _, .inr (.inl ((Below.refl _ _).alloc (Nat.le_refl _) _)), (show isLitE _ _ _ _ from ⟨_, rfl, hj.size, heap_alloc_new _ _⟩)⟩
          · have e4 : isOwnE W0.heap.size ([] ++ xs.take k) (a'.eval (.tmp 54)) wk := hd ⟨4, .data⟩ (by simp) rfl (by intro j _ hc; revert hc; unfold peCons; simp; try omega)
            have e8 : isLitE W0.heap.size e (a'.eval (.tmp 56)) wk := hd ⟨6, .data⟩ (by simp) rfl (by intro j _ hc; revert hc; unfold peCons; simp; try omega)
            obtain ⟨b8, v8, hb8, hh8⟩ := e8
            obtain ⟨i0, hi0, hz0, hz1, hz2⟩ := info_parts info_ent
            refine wp_cat (enc := encE) wk (.tmp 54) (.tmp 56) 67 rfl W0.heap.size 81 i0 _ 2 24 Tryz.underlying67 hi0 hz0 hz1 hz2 rfl (by decide) (a'.eval (.tmp 54)) (.slice (some ⟨b8, 0, none⟩) 1 1) ([] ++ xs.take k) [e] rfl v8 e4 _ (lit_rdE hh8) encE_one (by have := HN.out; simp <;> omega) (by decide) hj.size ?_
            intro v' w' ho hg hg'
            exact ⟨_, rfl, hj.grown hg hj.size (fun g hg1 => (Own.lt e4 g hg1).1), .inr (.inr (.inr (.inl rfl))), (show isOwnE _ _ _ _ from ho)⟩
          · have b7 : a'.eval (.tmp 7) = (.slice ra (n - k) (c - k)) := hb' 7 (by rfl); have c7 := ev_get b7
            exact iv_val (v := (.slice ra (n - k) (c - k))) (by simp [execOp, b7]) ⟨_, rfl, hj, .inl rfl, (show isRdE W0 (xs.drop k) _ wk from hbk)⟩
          · have e9 : isOwnE W0.heap.size ([] ++ xs.take k ++ [e]) (a'.eval (.tmp 57)) wk := hd ⟨7, .data⟩ (by simp) rfl (by intro j _ hc; revert hc; unfold peCons; simp; try omega)
            have e12 : isRdE W0 (xs.drop k) (a'.eval (.tmp 58)) wk := hd ⟨8, .data⟩ (by simp) rfl (by intro j _ hc; revert hc; unfold peCons; simp; try omega)
            obtain ⟨i0, hi0, hz0, hz1, hz2⟩ := info_parts info_ent
            obtain ⟨g9, cs9, hg9, hh9, hs9⟩ := own_rowE e9 (by simp)
            refine wp_cat (enc := encE) wk (.tmp 57) (.tmp 58) 67 rfl W0.heap.size 81 i0 _ 2 24 Tryz.underlying67 hi0 hz0 hz1 hz2 rfl (by decide) (a'.eval (.tmp 57)) (a'.eval (.tmp 58)) ([] ++ xs.take k ++ [e]) (xs.drop k) rfl rfl e9 _ (Rd.below e12 hj (Nat.le_refl _)) encE_one (by have := HN.out; simp <;> omega) (by decide) hj.size ?_
            intro v' w' ho hg hg'
            exact ⟨_, rfl, hj.grown hg hj.size (fun g hg1 => (Own.lt e9 g hg1).1), .inr (.inr (.inr (.inr ⟨rfl, g9, cs9, hh9, hs9, hg9 ▸ hg⟩))), (show isOwnE _ _ _ _ from ho)⟩
          · have e13 : isOwnE W0.heap.size ([] ++ xs.take k ++ [e] ++ (xs.drop k)) (a'.eval (.tmp 59)) wk := hd ⟨9, .data⟩ (by simp) rfl (by intro j _ hc; revert hc; unfold peCons; simp; try omega)
            exact iv_val (v := a'.eval (.tmp 59)) (by simp [execOp]) ⟨_, rfl, hj, .inl rfl, e13⟩
        case fin =>
          intro tm w4 hj hF
          have o15 : OwnE w4 W0.heap.size (tm.getD 8 undef) ([] ++ xs.take k ++ [e] ++ (xs.drop k)) := hF 10 _ rfl (fun j => by unfold peCons; simp)
          rw [List.nil_append] at o15
          clear hF
          simp only [refillL, List.setIfInBounds_toArray, List.set_cons_succ, List.set_cons_zero]
          obtain ⟨sv, hsv⟩ : ∃ sv, tm.getD 8 undef = sv := ⟨_, rfl⟩
          rw [hsv] at o15 ⊢
          rw [HPE.out] at o15
          clear hsv
          have HO15 := hid o15
          have HJ := hid hj
          clear o15 hj hfr hbk hbox
          cases hpe : entsOk (putE xs e)
          · have HO := hid (show putEnt xs e = (xs, false) by unfold putEnt; rw [HK.out, hpe]; rfl)
            have HPK := hid hpe
            clear hpe
            go_wp2_with fail
            refine (spec_EntriesValid_c _ (putE xs e) _ _ (Rd.of_own HO15.out) HPX.out HPL.out).mono ?_
            rw [HPK.out]
            rintro e' w5 ⟨rfl, z5, rfl⟩
            have d5 := bl_drewN HJ.out z5
            go_wp2_with (at_builtin; refine wpList_cat (enc := encE) (w0 := W0) rfl _ _ 67 rfl (w4.drewN z5).heap.size W0.heap.size 81 i0 _ 2 24 Tryz.underlying67 hi0 hz0 hz1 hz2 rfl (by decide) _ _ [] xs (Own.made _ (Nat.le_refl _)) _ ((HH.out.below d5 (Nat.le_refl _)).below ((Below.refl _ _).alloc (Nat.le_refl _) _) d5.size) (d5.alloc d5.size _) (by simp) d5.size rfl rfl encE_one (by have := HN.out; simp; omega) (by decide) ?_; intro v' w' hown' hb' hB' hg')
            go_ret2
            exact ⟨v', by rw [HO.out]; rfl, by rw [HO.out]; exact hown'.less (Nat.le_trans hB0 d5.size), bl_then d0 hb'⟩
          · have HO := hid (show putEnt xs e = (putE xs e, true) by unfold putEnt; rw [HK.out, hpe]; rfl)
            have HPK := hid hpe
            clear hpe
            go_wp2_with fail
            refine (spec_EntriesValid_c _ (putE xs e) _ _ (Rd.of_own HO15.out) HPX.out HPL.out).mono ?_
            rw [HPK.out]
            rintro e' w5 ⟨rfl, z5, rfl⟩
            go_wp2
            go_ret2
            exact ⟨sv, by rw [HO.out]; rfl, by rw [HO.out]; exact (HO15.out.less hB0).drewN z5, bl_then d0 (bl_drewN HJ.out z5)⟩

end Go.Proofs.YtachfmlfmpaddaaGreatDoor
