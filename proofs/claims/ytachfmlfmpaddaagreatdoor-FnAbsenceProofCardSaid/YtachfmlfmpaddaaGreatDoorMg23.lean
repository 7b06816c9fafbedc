/- Walks and plain facts, joined: ReachP', Count', Miss', DropE', Top', Reach'. -/
import Derived.Test.YtachfmlfmpaddaaGreatDoorMg2
import Derived.Test.YtachfmlfmpaddaaGreatDoorMg3
import Derived.Test.YtachfmlfmpaddaaGreatDoorMg4
import Derived.Test.YtachfmlfmpaddaaGreatDoorMg5
import Derived.Test.YtachfmlfmpaddaaGreatDoorMg7
import Derived.Test.YtachfmlfmpaddaaGreatDoorMg8
import Derived.Test.YtachfmlfmpaddaaGreatDoorMg9
import Derived.Test.YtachfmlfmpaddaaGreatDoorMg11
import Derived.Test.YtachfmlfmpaddaaGreatDoorMg13
import Derived.Test.YtachfmlfmpaddaaGreatDoorMg14
import Derived.Test.YtachfmlfmpaddaaGreatDoorMg15
import Derived.Test.YtachfmlfmpaddaaGreatDoorMg16
import Derived.Test.YtachfmlfmpaddaaGreatDoorMg17
import Derived.Test.YtachfmlfmpaddaaGreatDoorMg18
import Derived.Test.YtachfmlfmpaddaaGreatDoorMg20
import Derived.Test.YtachfmlfmpaddaaGreatDoorMg22
import Derived.Deep.LoopGhost
import Derived.WalkSmall
import Derived.OneCell
set_option linter.unusedVariables false
set_option linter.unusedSimpArgs false

/- What roots reach in a store, in plain Lean. -/
namespace Go.Proofs.YtachfmlfmpaddaaGreatDoor
open Go.RowKit

theorem reachB_len (l : List Pc) (roots : List Int) : (reachB l roots).length = l.length := by simp [reachB]

/-! ### The program's way: a heap of pieces to look at -/
structure DInv (l : List Pc) (roots : List Int) (A : List Bool) (todo : List Nat) (T : List Int) : Prop where
  len : A.length = l.length
  snd : ∀ (i : Nat) (x : Pc), A[i]? = some true → l[i]? = some x → Rch l roots x.print
  tin : ∀ i ∈ todo, A[i]? = some true
  sndT : ∀ y ∈ T, hasP l y = true → Rch l roots y
  rts : ∀ y ∈ roots, hasP l y = true → OnA A l y ∨ y ∈ T
  cls : ∀ (i : Nat) (x : Pc), A[i]? = some true → l[i]? = some x → i ∉ todo → ∀ y ∈ prs x, hasP l y = true → OnA A l y ∨ y ∈ T
def reachStep (l : List Pc) (y : Int) (s : List Bool × List Nat) : List Bool × List Nat :=
  if hasP l y = true ∧ s.1[findAt l y]? = some false then (s.1.set (findAt l y) true, s.2 ++ [findAt l y]) else s
theorem onA_set {A : List Bool} {l : List Pc} {y : Int} {i : Nat} (h : OnA A l y) : OnA (A.set i true) l y := by
  obtain ⟨j, x, h1, h2, h3⟩ := h
  refine ⟨j, x, ?_, h2, h3⟩
  by_cases e : i = j
  · subst e
    rw [List.getElem?_set_self (List.getElem?_eq_some_iff.1 h1).1]
  · rw [List.getElem?_set_ne e]; exact h1
theorem set_true {A : List Bool} {i j : Nat} (h : (A.set i true)[j]? = some true) : j = i ∨ A[j]? = some true := by
  by_cases e : i = j
  · exact .inl e.symm
  · rw [List.getElem?_set_ne e] at h; exact .inr h
theorem dinv_step {l : List Pc} {roots : List Int} {A : List Bool} {todo : List Nat} {y : Int} {T : List Int} (hs : storeOk l = true) (h : DInv l roots A todo (y :: T)) :
    DInv l roots (reachStep l y (A, todo)).1 (reachStep l y (A, todo)).2 T := by
  unfold reachStep
  split
  · rename_i hc
    obtain ⟨hp, hA⟩ := hc
    obtain ⟨x, hx, hxy⟩ := has_spot hs hp
    have hi := (List.getElem?_eq_some_iff.1 hA).1
    have hon : OnA (A.set (findAt l y) true) l y := ⟨findAt l y, x, by rw [List.getElem?_set_self hi], hx, hxy⟩
    refine ⟨by simp [h.len], ?_, ?_, fun z hz => h.sndT z (List.mem_cons_of_mem _ hz), ?_, ?_⟩
    · intro j z hj hz
      rcases set_true hj with rfl | hj'
      · rw [hx] at hz
        obtain rfl := Option.some.inj hz
        rw [hxy]; exact h.sndT y (List.mem_cons_self) hp
      · exact h.snd j z hj' hz
    · intro j hj
      rcases List.mem_append.1 hj with h1 | h1
      · by_cases e : findAt l y = j
        · rw [e, List.getElem?_set_self (by omega)]
        · rw [List.getElem?_set_ne e]; exact h.tin j h1
      · have : j = findAt l y := by simpa using h1
        rw [this, List.getElem?_set_self hi]
    · intro z hz hpz
      rcases h.rts z hz hpz with h1 | h1
      · exact .inl (onA_set h1)
      · rcases List.mem_cons.1 h1 with rfl | h2
        · exact .inl hon
        · exact .inr h2
    · intro j z hj hz hnt u hu hpu
      have hnt' : j ∉ todo ∧ j ≠ findAt l y := by
        constructor
        · exact fun h1 => hnt (List.mem_append_left _ h1)
        · intro e; exact hnt (by simp [e])
      rcases set_true hj with h1 | h1
      · exact absurd h1 hnt'.2
      · rcases h.cls j z h1 hz hnt'.1 u hu hpu with h2 | h2
        · exact .inl (onA_set h2)
        · rcases List.mem_cons.1 h2 with rfl | h3
          · exact .inl hon
          · exact .inr h3
  · rename_i hc
    have hon : hasP l y = true → OnA A l y := by
      intro hp
      obtain ⟨x, hx, hxy⟩ := has_spot hs hp
      have hi : findAt l y < A.length := by have := (List.getElem?_eq_some_iff.1 hx).1; rw [h.len]; exact this
      refine ⟨findAt l y, x, ?_, hx, hxy⟩
      rw [List.getElem?_eq_getElem hi]
      cases hv : A[findAt l y] with
      | true => rfl
      | false => exact absurd ⟨hp, by rw [List.getElem?_eq_getElem hi, hv]⟩ hc
    refine ⟨h.len, h.snd, h.tin, fun z hz => h.sndT z (List.mem_cons_of_mem _ hz), ?_, ?_⟩
    · intro z hz hpz
      rcases h.rts z hz hpz with h1 | h1
      · exact .inl h1
      · rcases List.mem_cons.1 h1 with rfl | h2
        · exact .inl (hon hpz)
        · exact .inr h2
    · intro j z hj hz hnt u hu hpu
      rcases h.cls j z hj hz hnt u hu hpu with h2 | h2
      · exact .inl h2
      · rcases List.mem_cons.1 h2 with rfl | h3
        · exact .inl (hon hpu)
        · exact .inr h3
theorem dinv_start {l : List Pc} {roots : List Int} : DInv l roots (List.replicate l.length false) [] roots := by
  refine ⟨by simp, ?_, by simp, fun y hy hp => rch_root hy hp, fun y hy _ => .inr hy, ?_⟩
  · intro i x hi; rw [List.getElem?_replicate] at hi; split at hi <;> simp at hi
  · intro i x hi; rw [List.getElem?_replicate] at hi; split at hi <;> simp at hi
theorem dinv_pop {l : List Pc} {roots : List Int} {A : List Bool} {todo : List Nat} {i : Nat} {x : Pc} (h : DInv l roots A (todo ++ [i]) []) (hx : l[i]? = some x) : DInv l roots A todo (prs x) := by
  have hi := h.tin i (by simp)
  refine ⟨h.len, h.snd, fun j hj => h.tin j (by simp [hj]), fun y hy hp => rch_step (List.mem_of_getElem? hx) (h.snd i x hi hx) hy hp, ?_, ?_⟩
  · intro y hy hp
    rcases h.rts y hy hp with h1 | h1
    · exact .inl h1
    · cases h1
  · intro j z hj hz hnt u hu hpu
    by_cases e : j = i
    · subst e
      rw [hx] at hz
      obtain rfl := Option.some.inj hz
      exact .inr hu
    · rcases h.cls j z hj hz (by simp [hnt, e]) u hu hpu with h2 | h2
      · exact .inl h2
      · cases h2
theorem dinv_end {l : List Pc} {roots : List Int} {A : List Bool} (hs : storeOk l = true) (h : DInv l roots A [] []) : A = reachB l roots := by
  refine marks_all hs h.len h.snd (cpl_of hs ?_ ?_)
  · intro y hy hp
    rcases h.rts y hy hp with h1 | h1
    · exact h1
    · cases h1
  · intro j z hj hz u hu hpu
    rcases h.cls j z hj hz (by simp) u hu hpu with h2 | h2
    · exact h2
    · cases h2
/-- The number that falls: twice the pieces without a mark, and those to look at. -/
def reachMu (s : List Bool × List Nat) : Nat := 2 * s.1.count false + s.2.length
theorem count_set_true : ∀ (A : List Bool) (i : Nat), A[i]? = some false → (A.set i true).count false + 1 = A.count false
  | [], i, h => by simp at h
  | a :: r, 0, h => by
    simp at h; subst h; simp
  | a :: r, i + 1, h => by
    have := count_set_true r i (by simpa using h)
    rw [List.set_cons_succ, List.count_cons, List.count_cons]
    omega
theorem reachMu_step (l : List Pc) (y : Int) (s : List Bool × List Nat) : reachMu (reachStep l y s) ≤ reachMu s := by
  unfold reachStep
  split
  · rename_i hc
    have := count_set_true s.1 _ hc.2
    simp only [reachMu, List.length_append, List.length_cons, List.length_nil]
    omega
  · exact Nat.le_refl _

/-! ### The reference's way: rounds -/
/-! ### The prints -/
end Go.Proofs.YtachfmlfmpaddaaGreatDoor

/- Walks: how many entries name each piece. -/
namespace Go.Proofs.YtachfmlfmpaddaaGreatDoor
open Go.RowKit

/-- For every piece the times that its print stands in a row. -/
def cntIn (l : List Pc) (ns : List Int) : List Int := l.map fun p => ((ns.count p.print : Nat) : Int)
noncomputable def countsOf (l : List Pc) : List Int := if storeOk l then cntIn l (named l) else []
theorem cnt_len (l : List Pc) (ns : List Int) : (cntIn l ns).length = l.length := by simp [cntIn]
theorem cnt_get {l : List Pc} {i : Nat} {x : Pc} (ns : List Int) (h : l[i]? = some x) : (cntIn l ns)[i]? = some ((ns.count x.print : Nat) : Int) := by simp [cntIn, h]
theorem cnt_nil (l : List Pc) : cntIn l [] = List.replicate l.length 0 := by
  unfold cntIn
  rw [List.eq_replicate_iff]
  simp
theorem cnt_snoc (ns : List Int) (y p : Int) : (ns ++ [y]).count p = ns.count p + if y = p then 1 else 0 := by
  rw [List.count_append, List.count_singleton]
  simp
theorem countsOf_off {l : List Pc} (h : storeOk l = false) : countsOf l = [] := by unfold countsOf; rw [h]; rfl
theorem countsOf_on {l : List Pc} (h : storeOk l = true) : countsOf l = cntIn l (named l) := by unfold countsOf; rw [h]; rfl
theorem countsOf_len {l : List Pc} : (countsOf l).length ≤ 40 := by
  cases h : storeOk l
  · rw [countsOf_off h]; simp
  · rw [countsOf_on h, cnt_len]; exact (st_in h).1
theorem cnt_no {l : List Pc} {y : Int} (ns : List Int) (h : hasP l y = false) : cntIn l (ns ++ [y]) = cntIn l ns := by
  unfold cntIn
  refine List.map_congr_left (fun x hx => ?_)
  rw [cnt_snoc, if_neg (fun e => ?_)]
  · rfl
  · have := hasP_iff.2 ⟨x, hx, e.symm⟩
    rw [h] at this; cases this
theorem has_at {l : List Pc} {y : Int} (hs : storeOk l = true) (h : hasP l y = true) : ∃ x, l[findAt l y]? = some x ∧ x.print = y := by
  refine Classical.byContradiction (fun hc => ?_)
  have := find_no (st_asc hs) (n := y) (fun x hx e => hc ⟨x, hx, e⟩)
  unfold hasP at h
  rw [this] at h; cases h
theorem cnt_yes {l : List Pc} {y : Int} (ns : List Int) (hs : storeOk l = true) (h : hasP l y = true) : cntIn l (ns ++ [y]) = (cntIn l ns).set (findAt l y) ((ns.count y : Nat) + 1 : Int) := by
  obtain ⟨x, hx, rfl⟩ := has_at hs h
  apply List.ext_getElem?
  intro j
  by_cases hj : j = findAt l x.print
  · rw [hj, cnt_get _ hx, List.getElem?_set_self (by rw [cnt_len]; exact (List.getElem?_eq_some_iff.1 hx).1), cnt_snoc, if_pos rfl]
    simp
  · rw [List.getElem?_set_ne (Ne.symm hj)]
    unfold cntIn
    rw [List.getElem?_map, List.getElem?_map]
    cases hz : l[j]? with
    | none => rfl
    | some z =>
      have hne : x.print ≠ z.print := by
        rcases Nat.lt_or_gt_of_ne hj with h1 | h1
        · have := asc_get (st_asc hs) hz hx h1; omega
        · have := asc_get (st_asc hs) hx hz h1; omega
      simp only [Option.map_some]
      rw [cnt_snoc, if_neg hne]
      simp
theorem set_flat (xs : List Int) (i : Nat) (z : Int) : (xs.flatMap encI).set i (.int .i64 z) = (xs.set i z).flatMap encI := by
  unfold encI
  rw [← List.map_eq_flatMap, ← List.map_eq_flatMap, List.map_set]


end Go.Proofs.YtachfmlfmpaddaaGreatDoor

/- Walks: the prints that are missing. -/
namespace Go.Proofs.YtachfmlfmpaddaaGreatDoor
open Go.RowKit

theorem wantFrom_snoc (l : List Pc) (ns : List Int) (n : Int) : wantFrom l (ns ++ [n]) = wantStep l (wantFrom l ns) n := by
  unfold wantFrom; rw [List.foldl_append]; rfl
theorem missingOf_off {l : List Pc} (h : storeOk l = false) : missingOf l = [] := by unfold missingOf wantedOf; rw [h]; rfl
theorem missingOf_on {l : List Pc} (h : storeOk l = true) : missingOf l = wantFrom l (named l) := by unfold missingOf wantedOf; rw [h]; rfl
theorem missingOf_len {l : List Pc} : (missingOf l).length ≤ 120 := by
  cases h : storeOk l
  · rw [missingOf_off h]; simp
  · rw [missingOf_on h]
    have h1 := wantFrom_len l (named l) []
    have h2 := named_len l
    have h3 := (st_in h).1
    unfold wantFrom
    simp only [List.length_nil] at h1
    omega

set_option maxHeartbeats 2000000 in
set_option maxRecDepth 100000 in
theorem impl_MissingPrints_c (v : Value) (xs : List Pc) (w : World) (h : Pcs w w.heap.size v xs) (hx0 : ∀ x ∈ xs, x.text.size ≤ 1048576) (hl0 : xs.length ≤ 1048576) (hg : Glob w) :
    Calls Tryz.prog 40 #[v] w fun e w' => ∃ v', e = .returned v' ∧ OwnI w' w.heap.size v' (missingOf xs) ∧ Below w.heap.size w w' := by
  obtain ⟨n, hn⟩ : ∃ n, xs.length = n := ⟨_, rfl⟩
  obtain ⟨a, c, rfl, _, _, _⟩ := h.pcs hn
  have HP : Hid (∀ wx, Below w.heap.size w wx → Pcs wx wx.heap.size (.slice a n c) xs) := fun wx hx' => h.on hx'
  have HL := hid hl0
  have HG := hid hg
  clear hn hx0 hg
  cases hok : storeOk xs
  · have HO := hid (missingOf_off hok)
    go_enter Tryz.func40, Tryz.ntmps40
    go_wp2_with fail
    refine (impl_StoreValid_c _ xs _ h).mono ?_
    rw [hok]
    rintro e w1 ⟨rfl, b1⟩
    go_wp2
    go_ret
    exact ⟨_, rfl, by rw [HO.out]; exact Own.nil_, b1⟩
  · have HO := hid (missingOf_on hok)
    have HK := hid hok
    have HX := hid (fun (x : Pc) (hx : x ∈ xs) => show x.text.size ≤ 1000000 by have := textOk_size (pcOk_iff.1 (st_all hok hx)).1; omega)
    obtain ⟨ns, hns⟩ : ∃ ns, named xs = ns := ⟨_, rfl⟩
    have HNS := hid hns
    obtain ⟨m, hm⟩ : ∃ m, ns.length = m := ⟨_, rfl⟩
    have HM := hid hm
    have hl : m ≤ 3145728 := by have := named_len xs; rw [hns, hm] at this; omega
    clear hns
    go_enter Tryz.func40, Tryz.ntmps40
    go_wp2_with fail
    refine (impl_StoreValid_c _ xs _ h).mono ?_
    rw [hok]
    rintro e w0 ⟨rfl, b0⟩
    clear hok h
    go_wp2_with fail
    refine (impl_namedPrints_c _ xs _ (HP.out _ b0) HX.out HL.out (HG.out.on b0)).mono ?_
    rw [HNS.out]
    rintro e w1 ⟨nv, rfl, o1, b1'⟩
    have b1 := bl_then b0 b1'
    have hs1 := b1.size
    have hrd := Rd.of_own o1
    obtain ⟨a', c', rfl, _, _, h3⟩ := hrd.ints hm
    clear b1' o1 hrd hm
    go_wp2
    go_loopw [3, 14] (fun out i wr => ∃ (k : Nat) (acc : List Int), k ≤ m ∧ i = .int .i64 k ∧ OwnI wr w1.heap.size out acc ∧ Hid (acc = wantFrom xs (ns.take k)) ∧ acc.length ≤ k ∧ Below w1.heap.size w1 wr) (fun _ i _ => m - (intOf i).toNat)
    case atStart => exact ⟨0, [], Nat.zero_le _, rfl, Own.nil_, rfl, Nat.zero_le _, Below.refl _ _⟩
    case round =>
      obtain ⟨k, acc, hk, rfl, hown, hacc, hlen, hb⟩ := hrel
      have c1 := bl_then b1 hb
      by_cases hlt : k < m
      · obtain ⟨b, o, x, rfl, hbl, hx, k0⟩ := h3 k hlt
        have j0 := (hb.cell (p := ⟨b, o + k, none⟩) hbl).trans k0
        have HF := hid ((wantFrom_succ (l := xs) hx.out).trans (by rw [← hacc.out]))
        clear k0 h3
        obtain ⟨y, hy⟩ : ∃ y, hasP xs x = y := ⟨_, rfl⟩
        have HY := hid hy
        clear hy
        go_wp2_with fail
        refine (impl_findPiece_c _ xs x _ (HP.out _ c1) HK.out).mono ?_
        rw [HY.out]
        rintro e w4 ⟨rfl, b4⟩
        have hown4 := hown.on b4
        have hb4 := hb.trans (b4.mono hb.size)
        have hB4 := hb4.size
        clear b4 hown hb
        cases y
        · obtain ⟨z, hz⟩ : ∃ z, hasI acc x = z := ⟨_, rfl⟩
          have HZ := hid hz
          clear hz
          go_wp2_with fail
          refine (slices_Contains_c _ acc x _ _ (Rd.of_own hown4)).mono ?_
          rw [HZ.out]
          rintro e w5 ⟨rfl, rfl⟩
          cases z
          · have HS := hid (show wantStep xs acc x = acc ++ [x] by unfold wantStep; rw [HY.out, HZ.out]; rfl)
            go_wp2_with (at_builtin; refine push_int (w0 := w1) rfl _ _ rfl _ _ _ _ _ hown4 hb4 hB4 (Nat.le_refl _) rfl rfl (by omega) ?_; intro v' w' hown' hb' hB' _)
            go_roundw
            case rel => exact ⟨k + 1, _, by omega, by go_num, hown', hid (HF.out.trans HS.out).symm, by simp; omega, hb'⟩
            case measure => simp [intOf]; omega
          · have HS := hid (show wantStep xs acc x = acc by unfold wantStep; rw [HY.out, HZ.out]; rfl)
            go_wp2
            go_roundw
            case rel => exact ⟨k + 1, _, by omega, by go_num, hown4, hid (HF.out.trans HS.out).symm, by omega, hb4⟩
            case measure => simp [intOf]; omega
        · have HS := hid (show wantStep xs acc x = acc by unfold wantStep; rw [HY.out]; rfl)
          go_wp2
          go_roundw
          case rel => exact ⟨k + 1, _, by omega, by go_num, hown4, hid (HF.out.trans HS.out).symm, by omega, hb4⟩
          case measure => simp [intOf]; omega
      · have HA := hid (show acc = missingOf xs by rw [HO.out, HNS.out, hacc.out, take_all HM.out (show m ≤ k by omega)])
        go_wp2
        go_ret
        exact ⟨_, rfl, by rw [← HA.out]; exact hown.less hs1, c1⟩


end Go.Proofs.YtachfmlfmpaddaaGreatDoor

/- Walks: the reference's entries of which one is dropped. -/
namespace Go.Proofs.YtachfmlfmpaddaaGreatDoor
open Go.RowKit

theorem str_neE {u t : ByteArray} : (u.toList != t.toList) = !decide (u = t) := by
  rw [bne, str_eqE]

end Go.Proofs.YtachfmlfmpaddaaGreatDoor

/- Walks: the prints that nobody names. -/
namespace Go.Proofs.YtachfmlfmpaddaaGreatDoor
open Go.RowKit

def topF (x : Int × Pc) : List Int := if x.1 = 0 then [x.2.print] else []
noncomputable def topsOf (l : List Pc) : List Int := ((countsOf l).zip l).flatMap topF
theorem zip_at {c : List Int} {l : List Pc} {k : Nat} {z : Int} {x : Pc} (hc : c[k]? = some z) (hx : l[k]? = some x) : ((c.zip l).take (k + 1)).flatMap topF = ((c.zip l).take k).flatMap topF ++ topF (z, x) := by
  have : (c.zip l)[k]? = some (z, x) := List.getElem?_zip_eq_some.2 ⟨hc, hx⟩
  rw [take_snoc' this]; simp
theorem counts_le {l : List Pc} : (countsOf l).length ≤ l.length := by
  cases h : storeOk l
  · rw [countsOf_off h]; simp
  · rw [countsOf_on h, cnt_len]; exact Nat.le_refl _
theorem topsOf_len {l : List Pc} : (topsOf l).length ≤ 40 := by
  have : ∀ (a : List (Int × Pc)), (a.flatMap topF).length ≤ a.length := by
    intro a
    induction a with
    | nil => simp
    | cons x r ih =>
      simp only [List.flatMap_cons, List.length_append, List.length_cons]
      have : (topF x).length ≤ 1 := by unfold topF; split <;> simp
      omega
  have h1 := this ((countsOf l).zip l)
  have h2 := countsOf_len (l := l)
  rw [List.length_zip] at h1
  unfold topsOf
  omega
theorem topF_yes {z : Int} {x : Pc} (h : z = 0) : topF (z, x) = [x.print] := by unfold topF; rw [if_pos h]
theorem topF_no {z : Int} {x : Pc} (h : ¬ z = 0) : topF (z, x) = [] := by unfold topF; rw [if_neg h]



end Go.Proofs.YtachfmlfmpaddaaGreatDoor

/- Walks: what roots reach, the program's way. -/
namespace Go.Proofs.YtachfmlfmpaddaaGreatDoor
open Go.RowKit

set_option maxHeartbeats 2000000 in
set_option maxRecDepth 100000 in
theorem reach_no_c (g0 g1 g2 g3 n c : Nat) (a : Option Addr) (xs : List Pc) (y : Int) (A : List Bool) (tv : Value) (todo : List Nat) (w : World) (h : Pcs w w.heap.size (.slice a n c) xs) (hs : storeOk xs = true) (hn : xs.length = n) (hA : A.length = n)
    (hv : RVars w g0 g1 g2 g3 a n c A tv todo) (hno : ¬ (hasP xs y = true ∧ A[findAt xs y]? = some false)) :
    Calls Tryz.prog 158 #[.int .i64 y, .pointer (some ⟨g0, 0, none⟩), .pointer (some ⟨g2, 0, none⟩), .pointer (some ⟨g3, 0, none⟩)] w fun e w' => e = .returned (.tuple #[]) ∧ Below w.heap.size w w' := by
  have c0 := cell_of_one hv.vs
  have HV := hid hv
  have HS := hid hs
  have HN := hid hn
  have HA := hid hA
  cases hp : hasP xs y
  · have HP := hid hp
    clear hv hs hn hA hno hp
    go_enter Tryz.func158, Tryz.ntmps158
    go_wp2_with fail
    refine (impl_findPiece_c _ xs y _ h HS.out).mono ?_
    rw [HP.out]
    rintro e w1 ⟨rfl, b1⟩
    go_wp2
    go_end0
    exact ⟨rfl, b1⟩
  · obtain ⟨x, hx, hxy⟩ := has_spot hs hp
    obtain ⟨i, hi⟩ : ∃ i, findAt xs y = i := ⟨_, rfl⟩
    rw [hi] at hx hno
    have hin : i < n := by have := (List.getElem?_eq_some_iff.1 hx).1; omega
    have hAi : A[i]? = some true := by
      rw [List.getElem?_eq_getElem (by omega)]
      cases hb : A[i]'(by omega) with
      | true => rfl
      | false => exact absurd ⟨hp, by rw [List.getElem?_eq_getElem (by omega), hb]⟩ hno
    have HP := hid hp
    have HI := hid hi
    have HAi := hid hAi
    clear hv hs hn hA hno hp hx hxy hi hAi
    go_enter Tryz.func158, Tryz.ntmps158
    go_wp2_with fail
    refine (impl_findPiece_c _ xs y _ h HS.out).mono ?_
    rw [HP.out, HI.out]
    rintro e w1 ⟨rfl, b1⟩
    have hv1 := HV.out.on b1
    have c2 := cell_of_one hv1.vr
    have d1 : w1.cell? ⟨g1, i, none⟩ = some (.bool true) := by
      have hR := hv1.row
      unfold OwnB Own at hR
      rw [HA.out] at hR
      have := flatMap_get (enc := encB) (fun _ => rfl) A i 0 _ _ HAi.out rfl
      exact (hR.cellAt i (by omega)).trans (by simpa using this)
    clear hv1
    go_wp2
    go_end0
    exact ⟨rfl, b1⟩

set_option maxHeartbeats 2000000 in
set_option maxRecDepth 100000 in
theorem reach_yes_c (g0 g1 g2 g3 n c : Nat) (a : Option Addr) (xs : List Pc) (y : Int) (A : List Bool) (tv : Value) (todo : List Nat) (w : World) (h : Pcs w w.heap.size (.slice a n c) xs) (hs : storeOk xs = true) (hn : xs.length = n) (hA : A.length = n)
    (hv : RVars w g0 g1 g2 g3 a n c A tv todo) (ht : todo.length ≤ 1000) (hp : hasP xs y = true) (hAi : A[findAt xs y]? = some false) :
    Calls Tryz.prog 158 #[.int .i64 y, .pointer (some ⟨g0, 0, none⟩), .pointer (some ⟨g2, 0, none⟩), .pointer (some ⟨g3, 0, none⟩)] w fun e w' => e = .returned (.tuple #[]) ∧
      ∃ tv', RVars w' g0 g1 g2 g3 a n c (A.set (findAt xs y) true) tv' (todo ++ [findAt xs y]) ∧ Frm (fun k => k = g1 ∨ k = g3 ∨ tv.ownBlock = some k) w w' ∧ (∀ g, tv'.ownBlock = some g → tv.ownBlock = some g ∨ w.heap.size ≤ g) := by
  have c0 := cell_of_one hv.vs
  have HV := hid hv
  have HS := hid hs
  have HA := hid hA
  have HT := hid ht
  obtain ⟨i, hi⟩ : ∃ i, findAt xs y = i := ⟨_, rfl⟩
  rw [hi] at hAi ⊢
  have hin : i < n := by have := (List.getElem?_eq_some_iff.1 hAi).1; omega
  have HP := hid hp
  have HI := hid hi
  have HAi := hid hAi
  clear hv hs hn hA hp hi hAi ht
  go_enter Tryz.func158, Tryz.ntmps158
  go_wp2_with fail
  refine (impl_findPiece_c _ xs y _ h HS.out).mono ?_
  rw [HP.out, HI.out]
  rintro e w1 ⟨rfl, b1⟩
  have HV1 := hid (HV.out.on b1)
  have c2 := cell_of_one HV1.out.vr
  have hR : w1.ownsRow g1 4 1 (.slice (some ⟨g1, 0, none⟩) n n) n (A.flatMap encB) := by
    have := HV1.out.row
    unfold OwnB Own at this
    rw [HA.out] at this
    exact this
  have d1 : w1.cell? ⟨g1, i, none⟩ = some (.bool false) := by
    have := flatMap_get (enc := encB) (fun _ => rfl) A i 0 _ _ HAi.out rfl
    exact (hR.cellAt i (by omega)).trans (by simpa using this)
  have f1 : w1.frozen? ⟨g1, i, none⟩ = false := hR.frozenAt i
  have hst := hid (hR.stored i (.bool true))
  obtain ⟨l1, l2, l3⟩ := HV1.out.lt
  have L1 := hid l1
  have L2 := hid l2
  have L3 := hid l3
  obtain ⟨W2, hW2⟩ : ∃ W2, W2 = w1.setCell ⟨g1, i, none⟩ (.bool true) := ⟨_, rfl⟩
  have F2 : Frm (fun k => k = g1) w1 W2 := by rw [hW2]; exact Frm.set (S := fun k => k = g1) rfl _
  have hown2 : OwnI W2 (g3 + 1) tv (nats todo) := by
    rw [hW2]
    exact ownsRow_setCell_below HV1.out.own (by show g1 < g3 + 1; omega) _
  have vt2 : W2.heap[g3]? = some (.cells #[tv] 44 (0, 0)) := (F2.block _ (lt_of_block HV1.out.vt) (by omega)).trans HV1.out.vt
  have e2 : (w1.setCell ⟨g1, i, none⟩ (.bool true)).cell? ⟨g3, 0, none⟩ = some tv := by rw [← hW2]; exact cell_of_one vt2
  have hb2 := Below.refl (g3 + 1) W2
  have hs2 : g3 + 1 ≤ W2.heap.size := lt_of_block vt2
  have HR2 := hid hst.out.1
  clear hR l1 l2 l3 hst
  go_wp2_with (at_builtin; rw [← hW2]; refine push_int (w0 := W2) rfl _ _ rfl (g3 + 1) (g3 + 1) tv (nats todo) i hown2 hb2 hs2 (Nat.le_refl _) rfl (by rw [hW2]; simp [Act.eval]) (by have := HT.out; simp; omega) ?_; intro v' w' hown' hb' hB' hg'; have vt3 : w'.heap[g3]? = some (.cells #[tv] 44 (0, 0)) := (hb'.block g3 (by omega)).trans vt2; have c3 := cell_of_one vt3; have f3 := free_of_one vt3; obtain ⟨a5, c5, hv5, _, _, _⟩ := (Rd.of_own hown').ints (n := todo.length + 1) (by simp [nats]); subst hv5)
  go_end0
  have tvl : ∀ g, tv.ownBlock = some g → g3 + 1 ≤ g := fun g hg => (HV1.out.own.lt g hg).1
  have F3 : Frm (fun k => tv.ownBlock = some k) W2 w' := Frm.of_grown hg'.1 (fun g h => h)
  have F4 : Frm (fun k => k = g3) w' (w'.setCell ⟨g3, 0, none⟩ (.slice a5 (todo.length + 1) c5)) := Frm.set (S := fun k => k = g3) rfl _
  have l1 := L1.out
  have l2 := L2.out
  have l3 := L3.out
  have F : Frm (fun k => k = g1 ∨ k = g3 ∨ tv.ownBlock = some k) w (w'.setCell ⟨g3, 0, none⟩ (.slice a5 (todo.length + 1) c5)) :=
    (Frm.of_below b1).trans ((F2.mono (S' := fun k => k = g1 ∨ k = g3 ∨ tv.ownBlock = some k) (fun k e => .inl e)).trans ((F3.mono (S' := fun k => k = g1 ∨ k = g3 ∨ tv.ownBlock = some k) (fun k e => .inr (.inr e))).trans (F4.mono (S' := fun k => k = g1 ∨ k = g3 ∨ tv.ownBlock = some k) (fun k e => .inr (.inl e))) (fun _ _ e => e)) (fun _ _ e => e)) (fun _ _ e => e)
  refine ⟨rfl, _, ⟨?_, ?_, ?_, one_setCell vt3, ?_, HV.out.lt⟩, F, fun g hg => ?_⟩
  · refine (F.block g0 (lt_of_block HV.out.vs) ?_).trans HV.out.vs
    rintro (e | e | e)
    · omega
    · omega
    · have := tvl _ e; omega
  · refine (F.block g2 (lt_of_block HV.out.vr) ?_).trans HV.out.vr
    rintro (e | e | e)
    · omega
    · omega
    · have := tvl _ e; omega
  · have hR := HR2.out
    rw [set_flatB, ← hW2] at hR
    have hR' : OwnB W2 g1 (.slice (some ⟨g1, 0, none⟩) n n) (A.set i true) := by
      unfold OwnB Own
      rw [List.length_set, HA.out]
      exact hR
    refine (hR'.frm F3 (fun g hg e => ?_)).frm F4 (fun g hg e => ?_)
    · have := tvl _ e
      simp only [Value.ownBlock, Option.some.injEq] at hg
      omega
    · simp only [Value.ownBlock, Option.some.injEq] at hg
      omega
  · have := ownsRow_setCell_below (a := ⟨g3, 0, none⟩) hown' (by show g3 < g3 + 1; omega) (.slice a5 (todo.length + 1) c5)
    unfold OwnI Own nats
    rw [List.map_append]
    exact this
  · rcases hg'.2 g hg with h1 | h1
    · exact .inl h1
    · exact .inr (Nat.le_trans (Nat.le_trans b1.size F2.size) h1)

/-- What one call of the closure leaves. -/
def ReachPost (xs : List Pc) (y : Int) (g0 g1 g2 g3 n c : Nat) (a : Option Addr) (A : List Bool) (tv : Value) (todo : List Nat) (w : World) : Ending → World → Prop := fun e w' => e = .returned (.tuple #[]) ∧
  ∃ A' todo' tv', reachStep xs y (A, todo) = (A', todo') ∧ RVars w' g0 g1 g2 g3 a n c A' tv' todo' ∧ Frm (fun k => k = g1 ∨ k = g3 ∨ tv.ownBlock = some k) w w' ∧ (∀ g, tv'.ownBlock = some g → tv.ownBlock = some g ∨ w.heap.size ≤ g)

theorem reach_c (g0 g1 g2 g3 n c : Nat) (a : Option Addr) (xs : List Pc) (y : Int) (A : List Bool) (tv : Value) (todo : List Nat) (w : World) (h : Pcs w w.heap.size (.slice a n c) xs) (hs : storeOk xs = true) (hn : xs.length = n) (hA : A.length = n)
    (hv : RVars w g0 g1 g2 g3 a n c A tv todo) (ht : todo.length ≤ 1000) :
    Calls Tryz.prog 158 #[.int .i64 y, .pointer (some ⟨g0, 0, none⟩), .pointer (some ⟨g2, 0, none⟩), .pointer (some ⟨g3, 0, none⟩)] w (ReachPost xs y g0 g1 g2 g3 n c a A tv todo w) := by
  by_cases hc : hasP xs y = true ∧ A[findAt xs y]? = some false
  · refine (reach_yes_c g0 g1 g2 g3 n c a xs y A tv todo w h hs hn hA hv ht hc.1 hc.2).mono ?_
    rintro e w' ⟨he, tv', h1, h2, h3⟩
    exact ⟨he, _, _, tv', by unfold reachStep; rw [if_pos hc], h1, h2, h3⟩
  · refine (reach_no_c g0 g1 g2 g3 n c a xs y A tv todo w h hs hn hA hv hc).mono ?_
    rintro e w' ⟨he, hb⟩
    exact ⟨he, A, todo, tv, by unfold reachStep; rw [if_neg hc], hv.on hb, Frm.of_below hb, fun g hg => .inl hg⟩

end Go.Proofs.YtachfmlfmpaddaaGreatDoor
