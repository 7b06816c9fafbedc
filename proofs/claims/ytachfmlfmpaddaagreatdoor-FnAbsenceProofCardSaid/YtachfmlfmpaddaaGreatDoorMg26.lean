/- Walks and plain facts, joined: PathQ', LwP', Reach2'. -/
import Derived.Test.YtachfmlfmpaddaaGreatDoorMg1
import Derived.Test.YtachfmlfmpaddaaGreatDoorMg2
import Derived.Test.YtachfmlfmpaddaaGreatDoorMg3
import Derived.Test.YtachfmlfmpaddaaGreatDoorMg4
import Derived.Test.YtachfmlfmpaddaaGreatDoorMg7
import Derived.Test.YtachfmlfmpaddaaGreatDoorMg8
import Derived.Test.YtachfmlfmpaddaaGreatDoorMg9
import Derived.Test.YtachfmlfmpaddaaGreatDoorMg11
import Derived.Test.YtachfmlfmpaddaaGreatDoorMg13
import Derived.Test.YtachfmlfmpaddaaGreatDoorMg14
import Derived.Test.YtachfmlfmpaddaaGreatDoorMg15
import Derived.Test.YtachfmlfmpaddaaGreatDoorMg16
import Derived.Test.YtachfmlfmpaddaaGreatDoorMg17
import Derived.Test.YtachfmlfmpaddaaGreatDoorMg20
import Derived.Test.YtachfmlfmpaddaaGreatDoorMg22
import Derived.Test.YtachfmlfmpaddaaGreatDoorMg23
import Derived.Test.YtachfmlfmpaddaaGreatDoorMg24
set_option linter.unusedVariables false
set_option linter.unusedSimpArgs false

/- Walks: a path's words, the program's way. -/
namespace Go.Proofs.YtachfmlfmpaddaaGreatDoor
open Go.RowKit

theorem splitK_parts : ∀ (k : Nat) (l x : List UInt8), x ∈ Go.Lib.splitK [47] 0 k l → x.length ≤ l.length
  | 0, l, x, h => by simp [Go.Lib.splitK] at h; rw [h]; exact Nat.le_refl _
  | k + 1, l, x, h => by
    rcases cut_ways 47 l with h1 | ⟨a, r, e, h1⟩
    · rw [spl_none h1] at h; simp at h; rw [h]; exact Nat.le_refl _
    · subst e
      rw [spl_some h1] at h
      rcases List.mem_cons.1 h with rfl | h
      · simp
      · have := splitK_parts k r x h
        simp; omega
end Go.Proofs.YtachfmlfmpaddaaGreatDoor

/- What the laws on wanted, sent and taken texts, on named and missing prints and on what is reached say, in plain Lean. No program in sight. -/
namespace Go.Proofs.YtachfmlfmpaddaaGreatDoor
open Go.RowKit

theorem hasI_wantStep {l : List Pc} {out : List Int} {n y : Int} : y ∈ wantStep l out n ↔ (y ∈ out ∨ (y = n ∧ hasP l n = false)) := by
  unfold wantStep
  cases hp : hasP l n
  · cases hi : hasI out n
    · simp
    · simp only [Bool.false_or, if_true]
      constructor
      · exact .inl
      · rintro (h | ⟨rfl, _⟩)
        · exact h
        · exact hasI_iff.1 hi
  · simp
theorem want_mem {l : List Pc} {y : Int} : ∀ (ns out : List Int), y ∈ ns.foldl (wantStep l) out ↔ (y ∈ out ∨ (y ∈ ns ∧ hasP l y = false))
  | [], out => by simp
  | n :: r, out => by
    rw [List.foldl_cons, want_mem r, hasI_wantStep]
    constructor
    · rintro ((h | ⟨rfl, h⟩) | h)
      · exact .inl h
      · exact .inr ⟨by simp, h⟩
      · exact .inr ⟨by simp [h.1], h.2⟩
    · rintro (h | ⟨h, h2⟩)
      · exact .inl (.inl h)
      · rcases List.mem_cons.1 h with rfl | h
        · exact .inl (.inr ⟨rfl, h2⟩)
        · exact .inr ⟨h, h2⟩
theorem wantedOf_mem {l : List Pc} (h : storeOk l = true) {ns : List Int} {y : Int} : y ∈ wantedOf l ns ↔ (y ∈ ns ∧ hasP l y = false) := by
  unfold wantedOf wantFrom; rw [h]; simp [want_mem]
theorem wanted_has {l : List Pc} (h : storeOk l = true) {ns : List Int} {y : Int} (hy : y ∈ ns) : hasI (wantedOf l ns) y = !hasP l y := by
  rw [Bool.eq_iff_iff, hasI_iff, wantedOf_mem h]
  simp [hy]
theorem want_nodup {l : List Pc} : ∀ (ns out : List Int), out.Nodup → (ns.foldl (wantStep l) out).Nodup
  | [], out, h => h
  | n :: r, out, h => by
    rw [List.foldl_cons]
    refine want_nodup r _ ?_
    unfold wantStep
    split
    · exact h
    · rename_i hc
      rw [List.nodup_append]
      refine ⟨h, by simp, ?_⟩
      intro a ha b hb
      simp at hb; subst hb
      rintro rfl
      exact hc (by rw [hasI_iff.2 ha]; simp)
theorem want_same {l : List Pc} : ∀ (ns out : List Int), (out ++ ns).Nodup → (∀ y ∈ ns, hasP l y = false) → ns.foldl (wantStep l) out = out ++ ns
  | [], out, _, _ => by simp
  | n :: r, out, h, h2 => by
    rw [List.foldl_cons]
    have hs : wantStep l out n = out ++ [n] := by
      unfold wantStep
      rw [h2 n (by simp)]
      have : hasI out n = false := by
        cases hi : hasI out n
        · rfl
        · exfalso
          have := hasI_iff.1 hi
          rw [List.nodup_append] at h
          exact h.2.2 n this n (by simp) rfl
      rw [this]; rfl
    rw [hs, want_same r _ (by simpa using h) (fun y hy => h2 y (by simp [hy]))]
    simp
theorem send_map {l : List Pc} : ∀ (ns : List Int) (out : List ByteArray), ns.foldl (sendStep l) out = out ++ ns.filterMap (getP l)
  | [], out => by simp
  | n :: r, out => by
    rw [List.foldl_cons, send_map r]
    unfold sendStep
    rw [List.filterMap_cons]
    cases getP l n <;> simp
theorem sendTexts_on {l : List Pc} (h : storeOk l = true) (ns : List Int) : sendTexts l ns = ns.filterMap (getP l) := by
  unfold sendTexts sendFrom; rw [h, if_pos rfl, send_map]; rfl
theorem filterMap_len {α β : Type} (f : α → Option β) (p : α → Bool) : ∀ (l : List α), (∀ x ∈ l, p x = (f x).isSome) → (l.filterMap f).length = (l.filter p).length
  | [], _ => rfl
  | x :: r, h => by
    have h1 := h x (by simp)
    have ih := filterMap_len f p r (fun y hy => h y (by simp [hy]))
    rw [List.filterMap_cons, List.filter_cons, h1]
    cases f x with
    | none => simpa using ih
    | some y => simpa using ih
/-- FnSendTexts. -/
theorem lw_send {l : List Pc} (h : storeOk l = true) (ns : List Int) : (sendTexts l ns).length = (ns.filter fun n => !hasI (wantedOf l ns) n).length := by
  rw [sendTexts_on h]
  exact filterMap_len _ _ ns (fun n hn => by rw [wanted_has h hn]; simp [hasP])
theorem lw_send2 {l : List Pc} {ns : List Int} {t : ByteArray} (ht : t ∈ sendTexts l ns) : hasI ns (printOf (bs t)) = true := by
  cases h : storeOk l
  · unfold sendTexts at ht; rw [h] at ht; simp at ht
  · rw [sendTexts_on h] at ht
    obtain ⟨n, hn, hg⟩ := List.mem_filterMap.1 ht
    have hm := st_all h ((getP_iff h).1 hg)
    rw [hasI_iff, ← (pcOk_iff.1 hm).2]
    exact hn
/-- FnWantedOf. -/
theorem wantedOf_le {l : List Pc} {ns : List Int} : (wantedOf l ns).length ≤ ns.length := by
  unfold wantedOf
  split
  · have := wantFrom_len l ns []; unfold wantFrom; simpa using this
  · simp

/-! ### FnTakeTexts -/
theorem take_get {ps : List Int} : ∀ (ts : List ByteArray) (s : List Pc × Nat), storeOk s.1 = true →
    storeOk (ts.foldl (takeStep ps) s).1 = true ∧ (∀ n u, getP s.1 n = some u → getP (ts.foldl (takeStep ps) s).1 n = some u) ∧
    (∀ n, hasP (ts.foldl (takeStep ps) s).1 n = true → hasP s.1 n = true ∨ n ∈ ps) ∧
    s.2 ≤ (ts.foldl (takeStep ps) s).2 ∧ (ts.foldl (takeStep ps) s).2 ≤ s.2 + ts.length ∧ (ts.foldl (takeStep ps) s).1.length + (ts.foldl (takeStep ps) s).2 ≤ s.1.length + s.2 + ts.length
  | [], s, h => ⟨h, fun _ _ h => h, fun _ h => .inl h, Nat.le_refl _, by simp, by simp⟩
  | t :: r, s, h => by
    rw [List.foldl_cons]
    obtain ⟨i1, i2, i3, i4, i5, i6⟩ := take_get r (takeStep ps s t) (takeStep_ok h)
    by_cases hc : ((putS s.1 t).2.2 && hasI ps (putS s.1 t).2.1) = true
    · have e : takeStep ps s t = ((putS s.1 t).1, s.2) := by unfold takeStep; rw [if_pos hc]
      rw [e] at i1 i2 i3 i4 i5 i6 ⊢
      obtain ⟨hp, hi⟩ := Bool.and_eq_true_iff.1 hc
      obtain ⟨p1, p2, p3, p4⟩ := put_get h hp
      have hl : (putS s.1 t).1.length ≤ s.1.length + 1 := by
        rcases put_cases (t := t) h with e | ⟨_, _, e⟩ | ⟨_, _, _, e⟩
        · rw [e]; simp
        · rw [e]; simp
        · rw [e]; simp [insP_len]
      refine ⟨i1, fun n u hn => i2 n u ((p4 n u).2 (.inl hn)), fun n hn => ?_, i4, ?_, ?_⟩
      · rcases i3 n hn with h1 | h1
        · obtain ⟨u, hu⟩ := has_get h1
          rcases (p4 n u).1 hu with h2 | ⟨rfl, _⟩
          · exact .inl (get_has h2)
          · right
            rw [p3] at hi
            exact hasI_iff.1 hi
        · exact .inr h1
      · simp only [List.length_cons] at i5 ⊢; omega
      · simp only [List.length_cons] at i6 ⊢; omega
    · have e : takeStep ps s t = (s.1, s.2 + 1) := by unfold takeStep; rw [if_neg hc]
      rw [e] at i1 i2 i3 i4 i5 i6 ⊢
      refine ⟨i1, i2, i3, ?_, ?_, ?_⟩
      · simp only at i4; omega
      · simp only [List.length_cons] at i5 ⊢; omega
      · simp only [List.length_cons] at i6 ⊢; omega
theorem lw_take {l : List Pc} (h : storeOk l = true) (ps : List Int) (ts : List ByteArray) : ∃ (x : List Pc) (b : Nat), takeTexts l ps ts = (x, (b : Int)) ∧ storeOk x = true ∧ Le l x ∧ (∀ p ∈ x, hasP l p.print = true ∨ hasI ps p.print = true) ∧ b ≤ ts.length ∧ x.length + b ≤ l.length + ts.length := by
  obtain ⟨i1, i2, i3, i4, i5, i6⟩ := take_get (ps := ps) ts (l, 0) h
  refine ⟨(takeFrom l ps ts).1, (takeFrom l ps ts).2, by unfold takeTexts; rw [h]; rfl, i1, i2, fun p hp => ?_, ?_, ?_⟩
  · exact (i3 p.print (hasP_iff.2 ⟨p, hp, rfl⟩)).imp id hasI_iff.2
  · simpa [takeFrom] using i5
  · simpa [takeFrom] using i6

/-! ### FnMissingPrints -/
theorem missing_mem {l : List Pc} (h : storeOk l = true) {y : Int} : y ∈ missingOf l ↔ (y ∈ named l ∧ hasP l y = false) := by unfold missingOf; exact wantedOf_mem h
theorem missing_nodup (l : List Pc) : (missingOf l).Nodup := by
  unfold missingOf wantedOf
  split
  · exact want_nodup _ _ (by simp)
  · simp
theorem missing_hasP {l : List Pc} {y : Int} (hy : y ∈ missingOf l) : hasP l y = false := by
  cases h : storeOk l
  · rw [missingOf_off h] at hy; simp at hy
  · exact ((missing_mem h).1 hy).2
theorem missing_want (l : List Pc) : wantedOf l (missingOf l) = missingOf l := by
  cases h : storeOk l
  · rw [missingOf_off h]; unfold wantedOf; rw [h]; rfl
  · conv => lhs; unfold wantedOf
    rw [if_pos h]
    have := want_same (l := l) (missingOf l) [] (by simpa using missing_nodup l) (fun y hy => missing_hasP hy)
    simpa [wantFrom] using this
theorem missing_once {l : List Pc} {k : Nat} {y : Int} (h : (missingOf l)[k]? = some y) : hasI ((missingOf l).take k) y = false := by
  cases hh : hasI ((missingOf l).take k) y
  · rfl
  · exfalso
    have hm := hasI_iff.1 hh
    obtain ⟨j, hj, e⟩ := List.getElem_of_mem hm
    have hn := missing_nodup l
    obtain ⟨hk, ek⟩ := List.getElem?_eq_some_iff.1 h
    simp only [List.length_take] at hj
    rw [List.getElem_take] at e
    exact List.pairwise_iff_getElem.1 hn j k (by omega) hk (by omega) (by rw [e, ek])

/-! ### FnNameCounts -/
def cntHas (l : List Pc) (ns : List Int) : Nat := (ns.filter fun n => hasP l n).length
theorem sum_set : ∀ (L : List Int) (i : Nat) (x z : Int), L[i]? = some x → (L.set i z).sum = L.sum - x + z
  | [], i, x, z, h => by simp at h
  | a :: r, 0, x, z, h => by simp at h; subst h; simp; omega
  | a :: r, i + 1, x, z, h => by
    have := sum_set r i x z (by simpa using h)
    simp only [List.set_cons_succ, List.sum_cons, this]; omega
theorem cnt_sum {l : List Pc} (hs : storeOk l = true) (ns : List Int) : (cntIn l ns).sum = (cntHas l ns : Int) := by
  have key : ∀ n : Nat, ∀ ns : List Int, ns.length = n → (cntIn l ns).sum = (cntHas l ns : Int) := by
    intro n
    induction n with
    | zero =>
      intro ns hn
      obtain rfl := List.length_eq_zero_iff.1 hn
      rw [cnt_nil]
      simp [cntHas]
    | succ n ih =>
      intro ns hn
      rcases List.eq_nil_or_concat ns with rfl | ⟨t, y, rfl⟩
      · simp at hn
      · rw [List.concat_eq_append] at hn ⊢
        have iht := ih t (by simp at hn; omega)
        have hc : cntHas l (t ++ [y]) = cntHas l t + if hasP l y then 1 else 0 := by
          unfold cntHas
          rw [List.filter_append, List.length_append]
          cases hp : hasP l y <;> simp [hp]
        rw [hc]
        cases hp : hasP l y
        · rw [cnt_no t hp, iht]; simp
        · rw [cnt_yes t hs hp]
          obtain ⟨x, hx, hxy⟩ := has_at hs hp
          have hg := cnt_get t hx
          rw [hxy] at hg
          rw [sum_set _ _ _ _ hg, iht]
          simp; omega
  exact key ns.length ns rfl
theorem counts_sum {l : List Pc} (hs : storeOk l = true) : (countsOf l).sum = (cntHas l (named l) : Int) := by
  rw [countsOf_on hs]; exact cnt_sum hs _
/-- What the law's second loop takes away for one print. -/
noncomputable def missW (l : List Pc) (n : Int) : Int := if hasI (missingOf l) n then 0 else 1
theorem miss_named {l : List Pc} (hs : storeOk l = true) : ((named l).map (missW l)).sum = (cntHas l (named l) : Int) := by
  have key : ∀ ns : List Int, (∀ n ∈ ns, n ∈ named l) → (ns.map (missW l)).sum = (cntHas l ns : Int) := by
    intro ns
    induction ns with
    | nil => intro _; rfl
    | cons n r ih =>
      intro h
      rw [List.map_cons, List.sum_cons, ih (fun x hx => h x (by simp [hx]))]
      unfold missW cntHas
      rw [List.filter_cons]
      cases hp : hasP l n
      · rw [if_pos (hasI_iff.2 ((missing_mem hs).2 ⟨h n (by simp), hp⟩))]; simp
      · rw [if_neg (fun hc => by have := ((missing_mem hs).1 (hasI_iff.1 hc)).2; rw [hp] at this; cases this)]
        simp; omega
  exact key _ (fun _ h => h)
theorem lw_count {l : List Pc} (hs : storeOk l = true) : (countsOf l).sum - ((named l).map (missW l)).sum = 0 := by rw [counts_sum hs, miss_named hs]; omega
theorem counts_full {l : List Pc} (hs : storeOk l = true) : (countsOf l).length = l.length := by rw [countsOf_on hs, cnt_len]

/-! ### FnTopPrints, FnLostPrints -/
theorem top_mem {l : List Pc} (hs : storeOk l = true) {y : Int} : y ∈ topsOf l ↔ ∃ x ∈ l, x.print = y ∧ y ∉ named l := by
  unfold topsOf
  rw [List.mem_flatMap, countsOf_on hs]
  constructor
  · rintro ⟨⟨z, x⟩, hzx, hy⟩
    obtain ⟨i, hi, e⟩ := List.getElem_of_mem hzx
    have hi2 : i < l.length := by simp at hi; omega
    simp only [List.getElem_zip, Prod.mk.injEq] at e
    have hx : l[i]? = some x := by rw [List.getElem?_eq_getElem hi2, e.2]
    have hg := cnt_get (named l) hx
    have hz : (cntIn l (named l))[i]? = some z := by
      rw [List.getElem?_eq_getElem (by rw [cnt_len]; exact hi2)]
      rw [e.1]
    rw [hg] at hz
    have hz' := Option.some.inj hz
    unfold topF at hy
    simp only at hy
    split at hy
    · rename_i h0
      simp at hy; subst hy
      refine ⟨x, List.mem_of_getElem? hx, rfl, ?_⟩
      have : (named l).count x.print = 0 := by omega
      exact List.count_eq_zero.1 this
    · simp at hy
  · rintro ⟨x, hx, rfl, hn⟩
    obtain ⟨i, hi, e⟩ := List.getElem_of_mem hx
    have hx' : l[i]? = some x := by rw [List.getElem?_eq_getElem hi, e]
    have hg := cnt_get (named l) hx'
    rw [List.count_eq_zero.2 hn] at hg
    refine ⟨((0 : Nat), x), ?_, by simp [topF]⟩
    obtain ⟨h1, h2⟩ := List.getElem?_eq_some_iff.1 hg
    rw [List.mem_iff_getElem]
    refine ⟨i, by simp; omega, ?_⟩
    rw [List.getElem_zip, h2, e]
theorem named_mem {l : List Pc} {y : Int} : y ∈ named l ↔ ∃ x ∈ l, y ∈ prs x := by unfold named; exact List.mem_flatMap
theorem tops_reach {l : List Pc} (hs : storeOk l = true) (ha : Acy l) : ∀ x ∈ l, Rch l (topsOf l) x.print := by
  obtain ⟨rank, hr⟩ := ha
  obtain ⟨M, hM⟩ : ∃ M, ∀ x ∈ l, rank x.print ≤ M := ⟨(l.map fun x => rank x.print).sum, fun x hx => by
    have := sum_ge (f := rank) (l := l.map (·.print)) (List.mem_map.2 ⟨x, hx, rfl⟩)
    simpa [Function.comp_def] using this⟩
  have key : ∀ d : Nat, ∀ x ∈ l, M - rank x.print ≤ d → Rch l (topsOf l) x.print := by
    intro d
    induction d with
    | zero =>
      intro x hx hd
      have h1 := hM x hx
      refine rch_root ((top_mem hs).2 ⟨x, hx, rfl, fun hn => ?_⟩) (has_mem hx)
      obtain ⟨z, hz, hy⟩ := named_mem.1 hn
      have h2 := hr z hz _ hy (has_mem hx)
      have h3 := hM z hz
      omega
    | succ d ih =>
      intro x hx hd
      by_cases hn : x.print ∈ named l
      · obtain ⟨z, hz, hy⟩ := named_mem.1 hn
        have h2 := hr z hz _ hy (has_mem hx)
        have h3 := hM z hz
        exact rch_step hz (ih z hz (by omega)) hy (has_mem hx)
      · exact rch_root ((top_mem hs).2 ⟨x, hx, rfl, hn⟩) (has_mem hx)
  exact fun x hx => key _ x hx (Nat.le_refl _)
/-- The prints that are not reached. -/
noncomputable def lostOf (l : List Pc) (roots : List Int) : List Int := if storeOk l then (l.filter fun p => !inR l roots p.print).map (·.print) else []
theorem lostOf_off {l : List Pc} {roots : List Int} (h : storeOk l = false) : lostOf l roots = [] := by unfold lostOf; rw [h]; rfl
theorem lostOf_on {l : List Pc} {roots : List Int} (h : storeOk l = true) : lostOf l roots = (l.filter fun p => !inR l roots p.print).map (·.print) := by unfold lostOf; rw [h]; rfl
theorem lost_none {l : List Pc} {roots : List Int} (h : ∀ x ∈ l, Rch l roots x.print) : lostOf l roots = [] := by
  unfold lostOf
  split
  · rw [List.map_eq_nil_iff, List.filter_eq_nil_iff]
    intro x hx
    rw [inR_iff.2 (h x hx)]; simp
  · rfl
theorem filter_both {α : Type} (p : α → Bool) : ∀ l : List α, (l.filter fun x => !p x).length + (l.filter p).length = l.length
  | [] => rfl
  | x :: r => by
    have := filter_both p r
    rw [List.filter_cons, List.filter_cons]
    cases p x <;> simp <;> omega
theorem lost_all {l : List Pc} {roots : List Int} (h : storeOk l = true) : (lostOf l roots).length + (reachOf l roots).length = l.length := by
  rw [lostOf_on h, reachOf_on h, List.length_map, List.length_map]
  exact filter_both _ l
theorem rch_more {l : List Pc} {roots more : List Int} {y : Int} (h : Rch l roots y) (hm : ∀ z ∈ roots, z ∈ more) : Rch l more y := fun S hS => h S ⟨fun z hz hp => hS.1 z (hm z hz) hp, hS.2⟩
theorem lost_more {l : List Pc} {roots : List Int} (h : storeOk l = true) : lostOf l (roots ++ lostOf l roots) = [] := by
  refine lost_none (fun x hx => ?_)
  cases hr : inR l roots x.print
  · refine rch_root ?_ (has_mem hx)
    rw [List.mem_append, lostOf_on h]
    exact .inr (List.mem_map.2 ⟨x, List.mem_filter.2 ⟨hx, by simp [hr]⟩, rfl⟩)
  · exact rch_more (inR_iff.1 hr) (fun z hz => List.mem_append_left _ hz)
theorem lostOf_len {l : List Pc} {roots : List Int} : (lostOf l roots).length ≤ 40 := by
  cases h : storeOk l
  · rw [lostOf_off h]; simp
  · have := lost_all (roots := roots) h
    have := (st_in h).1
    omega
theorem topsOf_le {l : List Pc} : (topsOf l).length ≤ l.length := by
  unfold topsOf
  have h1 : ∀ z : List (Int × Pc), (z.flatMap topF).length ≤ z.length := by
    intro z
    induction z with
    | nil => simp
    | cons a r ih =>
      rw [List.flatMap_cons, List.length_append]
      have : (topF a).length ≤ 1 := by unfold topF; split <;> simp
      rw [List.length_cons]; omega
  refine Nat.le_trans (h1 _) ?_
  rw [List.length_zip]
  omega

/-! ### Drawn stores that are turned -/
end Go.Proofs.YtachfmlfmpaddaaGreatDoor

/- Walks: what roots reach, the program's way: the whole. -/
namespace Go.Proofs.YtachfmlfmpaddaaGreatDoor
open Go.RowKit

theorem todo_le {A : List Bool} {todo : List Nat} {m : Nat} (h : reachMu (A, todo) ≤ m) : todo.length ≤ m := by simp only [reachMu] at h; omega
theorem nil_or_snoc {α : Type} (l : List α) : l = [] ∨ ∃ (t : List α) (i : α), l = t ++ [i] := by
  rcases List.eq_nil_or_concat l with h | ⟨t, x, h⟩
  · exact .inl h
  · exact .inr ⟨t, x, by simpa using h⟩
theorem hmf_c (fn : Fn) (first cap : Array Value) (w : World) : (Instr.makeFunc fn first cap).run Tryz.prog w = .ok (.func fn first cap) w := rfl
theorem drop_at {α : Type} {xs : List α} {k : Nat} {x : α} (h : xs[k]? = some x) : xs.drop k = x :: xs.drop (k + 1) := by
  obtain ⟨h1, h2⟩ := List.getElem?_eq_some_iff.1 h
  rw [List.drop_eq_getElem_cons h1, h2]

set_option maxHeartbeats 2000000 in
set_option maxRecDepth 100000 in
theorem impl_reachedPieces_c (v u : Value) (xs : List Pc) (rts : List Int) (w : World) (h : Pcs w w.heap.size v xs) (h' : Ints w w.heap.size u rts) (hs : storeOk xs = true) (hl : rts.length ≤ 1048576) (hg : Glob w) :
    Calls Tryz.prog 120 #[v, u] w fun e w' => ∃ v', e = .returned v' ∧ OwnB w' w.heap.size v' (reachB xs rts) ∧ Below w.heap.size w w' := by
  obtain ⟨n, hn⟩ : ∃ n, xs.length = n := ⟨_, rfl⟩
  obtain ⟨a, c, rfl, _, _, hp3⟩ := h.pcs hn
  obtain ⟨q, hq⟩ : ∃ q, rts.length = q := ⟨_, rfl⟩
  obtain ⟨a', c', rfl, _, _, hi3⟩ := h'.ints hq
  have hn40 : n ≤ 40 := by have := (st_in hs).1; omega
  have HP : Hid (∀ wx, Below w.heap.size w wx → Pcs wx wx.heap.size (.slice a n c) xs) := fun wx hx' => h.on hx'
  have HX := hid (fun (x : Pc) (hx : x ∈ xs) => show x.text.size ≤ 1048576 by have := textOk_size (pcOk_iff.1 (st_all hs hx)).1; omega)
  have HP3 := hid hp3
  have HI3 := hid hi3
  have HS := hid hs
  have HN := hid hn
  have HQ := hid hq
  have HG := hid hg
  rw [hq] at hl
  obtain ⟨i0, hi, hz0, hz1, hz2⟩ := info_parts info_bool
  have b0 : Below w.heap.size w (w.alloc (.cells #[.slice a n c] 23)) := (Below.refl _ _).alloc (Nat.le_refl _) _
  have v0 : (w.alloc (.cells #[.slice a n c] 23)).heap[w.heap.size]? = some (.cells #[.slice a n c] 23 (0, 0)) := heap_alloc_new _ _
  have B0 := hid b0
  have V0 := hid v0
  clear b0 v0
  have hmf := hmf_c
  clear hp3 hi3 hs hn hq hg h h'
  go_enter Tryz.func120, Tryz.ntmps120
  go_wp2_with (at_make; refine wpList_make_full _ rfl _ _ 102 rfl (w.heap.size + 1) 4 i0 (.bool false) 1 Tryz.underlying102 hi hz0 hz1 _ _ _ _ n rfl rfl rfl rfl ?b2 ?b3 ?b4 ?_)
  case b2 => rw [hz2]; omega
  case b3 => unfold maxLen; omega
  case b4 => simp
  intro w1 o1 g1
  have b1 : Below w.heap.size w w1 := B0.out.grown g1 B0.out.size (by simp)
  have b1' : Below (w.heap.size + 1) (w.alloc (.cells #[.slice a n c] 23)) w1 := (Below.refl _ _).grown g1 (by simp) (by simp)
  have v1 := (b1'.block _ (Nat.lt_succ_self _)).trans V0.out
  have q1 : OwnB w1 (w.heap.size + 1) (.slice (some ⟨(w.heap.size + 1), 0, none⟩) n n) (List.replicate n false) := by
    unfold OwnB Own
    rw [List.length_replicate, ← made_flat (enc := encB) (.bool false) false rfl n]
    exact o1
  have l1 : w.heap.size + 1 < w1.heap.size := (q1.lt _ rfl).2
  obtain ⟨W3, hW3⟩ : ∃ W3, W3 = (w1.alloc (.cells #[.slice (some ⟨(w.heap.size + 1), 0, none⟩) n n] 102)).alloc (.cells #[.slice none 0 0] 44) := ⟨_, rfl⟩
  have hR : RVars W3 w.heap.size (w.heap.size + 1) w1.heap.size (w1.heap.size + 1) a n c (List.replicate n false) (.slice none 0 0) [] := by
    have b2 : Below w1.heap.size w1 W3 := by rw [hW3]; exact ((Below.refl _ _).alloc (Nat.le_refl _) _).alloc (by simp) _
    refine ⟨(b2.block _ (lt_of_block v1)).trans v1, ?_, q1.on b2, ?_, Own.nil_, Nat.lt_succ_self _, l1, Nat.lt_succ_self _⟩
    · rw [hW3]
      have : (w1.alloc (.cells #[.slice (some ⟨(w.heap.size + 1), 0, none⟩) n n] 102)).heap[w1.heap.size]? = some (.cells #[.slice (some ⟨(w.heap.size + 1), 0, none⟩) n n] 102 (0, 0)) := heap_alloc_new _ _
      exact (((Below.refl _ _).alloc (Nat.le_refl _) (.cells #[.slice none 0 0] 44)).block _ (lt_of_block this)).trans this
    · rw [hW3]
      have := heap_alloc_new (w1.alloc (.cells #[.slice (some ⟨(w.heap.size + 1), 0, none⟩) n n] 102)) (.cells #[.slice none 0 0] 44)
      simpa using this
  have b3 : Below w.heap.size w W3 := by rw [hW3]; exact (b1.alloc b1.size _).alloc (by simp; exact Nat.le_succ_of_le b1.size) _
  have HD0 := hid (dinv_start (l := xs) (roots := rts))
  have HB1 := hid b1.size
  clear o1 g1 hi hz0 hz1 hz2 v1 q1 b1 b1'
  go_wp2
  rw [← hW3]
  go_loopw [21] (fun iv wr => ∃ (k : Nat) (A : List Bool) (todo : List Nat) (tv : Value), k ≤ q ∧ iv = .int .i64 k ∧ RVars wr w.heap.size (w.heap.size + 1) w1.heap.size (w1.heap.size + 1) a n c A tv todo ∧ Hid (DInv xs rts A todo (rts.drop k)) ∧ reachMu (A, todo) ≤ 2 * n ∧ Below w.heap.size w wr) (fun iv _ => q - (intOf iv).toNat)
  case atStart => exact ⟨0, _, [], _, Nat.zero_le _, rfl, hR, by have := HD0.out; rw [HN.out] at this; exact hid this, by simp [reachMu], b3⟩
  case round =>
    obtain ⟨k, A, todo, tv, hk, rfl, hRv, hD, hmu, hb⟩ := hrel
    clear hR b3 hW3
    by_cases hlt : k < q
    · obtain ⟨b, o, y, rfl, hbl, hx, k0⟩ := HI3.out k hlt
      have j0 := (hb.cell (p := ⟨b, o + k, none⟩) hbl).trans k0
      have HDr := hid (drop_at hx.out)
      have HRv := hid hRv
      have HMu := hid hmu
      clear k0 hRv hmu
      go_wp2_with fail
      refine (reach_c w.heap.size (w.heap.size + 1) w1.heap.size (w1.heap.size + 1) n c a xs y A tv todo _ (HP.out _ hb) HS.out HN.out (hD.out.len.trans HN.out) HRv.out (by have := todo_le HMu.out; omega)).mono ?_
      rintro e w4 ⟨rfl, A', todo', tv', hst, hRv', hF, _⟩
      have hD' : Hid (DInv xs rts A' todo' (rts.drop (k + 1))) := by
        have h1 := hD.out
        rw [HDr.out] at h1
        have := dinv_step HS.out h1
        rw [hst] at this
        exact this
      have hmu' : reachMu (A', todo') ≤ 2 * n := by
        have := reachMu_step xs y (A, todo)
        rw [hst] at this
        exact Nat.le_trans this HMu.out
      have hb' : Below w.heap.size w w4 := hb.trans (hF.below (fun g e => by
        have hl := HRv.out.lt
        rcases e with e | e | e
        · omega
        · omega
        · have := (HRv.out.own.lt g e).1; omega) hb.size)
      clear hst hF hD hb
      go_wp2
      go_roundw
      case rel => exact ⟨k + 1, A', todo', tv', by omega, by go_num, hRv', hD', hmu', hb'⟩
      case measure => simp [intOf]; omega
    · have HD1 := hid (show DInv xs rts A todo [] by have := hD.out; rw [List.drop_eq_nil_of_le (by rw [HQ.out]; omega)] at this; exact this)
      have HMu := hid hmu
      have HRv := hid hRv
      clear hD hmu hRv
      go_wp2
      go_loopg [10] (2 * n) (fun gk s10 wr2 => ∃ (A : List Bool) (todo : List Nat) (tv : Value), RVars wr2 w.heap.size (w.heap.size + 1) w1.heap.size (w1.heap.size + 1) a n c A tv todo ∧ Hid (DInv xs rts A todo []) ∧ reachMu (A, todo) ≤ gk ∧ gk ≤ 2 * n ∧ Below w.heap.size w wr2)
      case atStart => exact ⟨A, todo, tv, HRv.out, HD1, HMu.out, Nat.le_refl _, hb⟩
      case round =>
        obtain ⟨A, todo, tv, hRv, hD, hmu, hgk, hb⟩ := hrel
        have HRv := hid hRv
        have c3 := cell_of_one hRv.vt
        rcases nil_or_snoc todo with rfl | ⟨t0, i, rfl⟩
        · obtain ⟨at', ct', rfl, _, _, _⟩ := (Rd.of_own hRv.own).ints (n := 0) rfl
          have c5 := cell_of_one hRv.vr
          have HE := hid (dinv_end HS.out hD.out)
          have hlt0 := hRv.lt
          clear hRv hD hmu
          go_wp2
          go_ret
          exact ⟨_, rfl, by rw [← HE.out]; exact HRv.out.row.less (by omega), hb⟩
        · obtain ⟨m, hm⟩ : ∃ m, t0.length = m := ⟨_, rfl⟩
          have hlen : (nats (t0 ++ [i])).length = m + 1 := by simp [hm]
          rcases hRv.own.2 with ⟨_, h00⟩ | ⟨g, cap, cur, htv, hge, hh, hnc, hcm, hcs, htk⟩
          · omega
          rw [hlen] at htv hnc
          subst htv
          have own1 : wr.ownsRow (w1.heap.size + 1 + 1) 3 1 (.slice (some ⟨g, 0, none⟩) (m + 1) cap) (m + 1) ((nats t0).flatMap encI ++ [.int .i64 (i : Int)]) := by
            have := hRv.own
            unfold OwnI Own at this
            rw [hlen] at this
            simpa [nats, encI] using this
          have hfl : ((nats t0).flatMap encI).length = m * 1 := by rw [← List.map_eq_flatMap]; simp [nats, hm]
          have d0 : wr.cell? ⟨g, m, none⟩ = some (.int .i64 (i : Int)) := (own1.cellAt m (by omega)).trans (by rw [List.getElem?_append_right (by omega), hfl]; simp)
          have own2 := ownsRow_pop hfl own1
          have hAi := hD.out.tin i (by simp)
          have hin : i < n := by have := (List.getElem?_eq_some_iff.1 hAi).1; have := hD.out.len; have := HN.out; omega
          obtain ⟨b, o, pr, t, rfl, hbl, hx, _, k1⟩ := HP3.out i hin
          have f3 := free_of_one hRv.vt
          obtain ⟨l1, l2, l3⟩ := hRv.lt
          obtain ⟨W4, hW4⟩ : ∃ W4, W4 = wr.setCell ⟨w1.heap.size + 1, 0, none⟩ (.slice (some ⟨g, 0, none⟩) m cap) := ⟨_, rfl⟩
          have F4 : Frm (fun k => k = w1.heap.size + 1) wr W4 := by rw [hW4]; exact Frm.set (S := fun k => k = w1.heap.size + 1) rfl _
          have hRv4 : RVars W4 w.heap.size (w.heap.size + 1) w1.heap.size (w1.heap.size + 1) (some ⟨b, o, none⟩) n c A (.slice (some ⟨g, 0, none⟩) m cap) t0 := by
            refine ⟨(F4.block _ (lt_of_block hRv.vs) (by omega)).trans hRv.vs, (F4.block _ (lt_of_block hRv.vr) (by omega)).trans hRv.vr, hRv.row.frm F4 (fun g hg e => by simp only [Value.ownBlock, Option.some.injEq] at hg; omega), by rw [hW4]; exact one_setCell hRv.vt, ?_, l1, l2, l3⟩
            have := ownsRow_setCell_below (a := ⟨w1.heap.size + 1, 0, none⟩) own2 (by show w1.heap.size + 1 < _; omega) (.slice (some ⟨g, 0, none⟩) m cap)
            rw [← hW4] at this
            unfold OwnI Own
            rw [show (nats t0).length = m by simp [hm]]
            exact this
          have hb4 : Below w.heap.size w W4 := hb.trans (F4.below (fun k e => by omega) hb.size)
          have e0 : (wr.setCell ⟨w1.heap.size + 1, 0, none⟩ (.slice (some ⟨g, 0, none⟩) m cap)).cell? ⟨w.heap.size, 0, none⟩ = some (.slice (some ⟨b, o, none⟩) n c) := by rw [← hW4]; exact cell_of_one hRv4.vs
          have e1 : (wr.setCell ⟨w1.heap.size + 1, 0, none⟩ (.slice (some ⟨g, 0, none⟩) m cap)).cell? ⟨b, o + i * 2 + 1, none⟩ = some (.string t) := by rw [← hW4]; exact (hb4.cell (p := ⟨b, o + i * 2 + 1, none⟩) hbl).trans k1
          have HD4 := hid (dinv_pop hD.out hx.out)
          have hmu4 : reachMu (A, t0) + 1 ≤ gk := by simp only [reachMu, List.length_append, List.length_cons, List.length_nil] at hmu ⊢; omega
          have HMu4 := hid hmu4
          have hm80 : m ≤ 80 := by have := todo_le hmu; simp at this; omega
          have HRv4 := hid hRv4
          have HT := hid (HX.out _ (List.mem_of_getElem? hx.out))
          obtain ⟨es, hes⟩ : ∃ es, entsOf (bs t) = es := ⟨_, rfl⟩
          have HES := hid hes
          have hm3 := entsOf_len (bs t)
          rw [hes] at hm3
          obtain ⟨mm, hmm⟩ : ∃ mm, es.length = mm := ⟨_, rfl⟩
          have HM := hid hmm
          have hmm4 : mm ≤ 3 := by omega
          have HB4 := hid hb4
          have hgkp : 0 < gk := by omega
          clear hRv hD hmu hh hcm hcs htk own1 own2 hfl hAi k1 F4 hRv4 hmu4 hes hm3 hlen hm hge hb l1 l2 l3 hb4
          go_wp2_with fail
          rw [← hW4]
          refine (impl_ReadFolder_c t _ HT.out (HG.out.on HB4.out)).mono ?_
          rw [HES.out]
          rintro e w5 ⟨lv, rfl, o5, b5⟩
          have hRv5 := HRv4.out.on b5
          have hb5 := bl_then HB4.out b5
          have hlt5 := hid o5.lt
          have hpb : Hid (∀ g', Value.ownBlock (.slice (some ⟨g, 0, none⟩) m cap) = some g' → g' < W4.heap.size) := hid fun g' hg' => (HRv4.out.own.lt g' hg').2
          have hg34 : w1.heap.size + 1 < W4.heap.size := lt_of_block HRv4.out.vt
          have hsz5 := b5.size
          obtain ⟨la, lc, rfl, _, _, _⟩ := (Rd.of_own o5).ents hmm
          have HXP := hid (show prs ⟨pr, t⟩ = es.map (·.print) by unfold prs; rw [HES.out])
          clear hW4 b5 hmm c3 f3 d0 e0 e1
          go_wp2
          go_loopw [54] (fun iv wr3 => ∃ (j : Nat) (A' : List Bool) (todo' : List Nat) (tv' : Value), j ≤ mm ∧ iv = .int .i64 j ∧ RVars wr3 w.heap.size (w.heap.size + 1) w1.heap.size (w1.heap.size + 1) (some ⟨b, o, none⟩) n c A' tv' todo' ∧ Hid (DInv xs rts A' todo' ((es.map (·.print)).drop j)) ∧ reachMu (A', todo') + 1 ≤ gk ∧ OwnE wr3 W4.heap.size (.slice la mm lc) es ∧ Hid (∀ g', tv'.ownBlock = some g' → g' < W4.heap.size ∨ w5.heap.size ≤ g') ∧ Below w.heap.size w wr3 ∧ w5.heap.size ≤ wr3.heap.size) (fun iv _ => mm - (intOf iv).toNat)
          case atStart => exact ⟨0, A, t0, _, Nat.zero_le _, rfl, hRv5, by have := HD4.out; rw [HXP.out] at this; exact hid this, HMu4.out, o5, hid fun g' hg' => .inl (hpb.out g' hg'), hb5, Nat.le_refl _⟩
          case round =>
            obtain ⟨j, A', todo', tv', hj, rfl, hRv6, hD6, hmu6, hol, hpb6, hb6, hsz6⟩ := hrel
            clear o5 hRv5 hb5
            by_cases hjm : j < mm
            · obtain ⟨_, _, hv, _, _, hcs⟩ := (Rd.of_own hol).ents HM.out
              simp only [Value.slice.injEq] at hv
              obtain ⟨e1, _, e2⟩ := hv
              subst e1
              subst e2
              obtain ⟨eb, eo, nm, y, rfl, hebl, hex, c0, c1⟩ := hcs j hjm
              have HDr := hid (drop_at (show (es.map (·.print))[j]? = some y by rw [List.getElem?_map, hex.out]; rfl))
              obtain ⟨W7, hW7⟩ : ∃ W7, W7 = wr.alloc (.cells #[.string nm, .int .i64 y] 81) := ⟨_, rfl⟩
              have hbl7 : Below wr.heap.size wr W7 := by rw [hW7]; exact (Below.refl _ _).alloc (Nat.le_refl _) _
              have hRv7 := hid (hRv6.on hbl7)
              have hol7 := hid (hol.on hbl7)
              have hb7 := hid (bl_then hb6 hbl7)
              have HS7 := hid hbl7.size
              have HMu6 := hid hmu6
              clear hcs hRv6 hol hb6 hmu6 hbl7
              go_wp2_with fail
              rw [← hW7]
              refine (reach_c w.heap.size (w.heap.size + 1) w1.heap.size (w1.heap.size + 1) n c (some ⟨b, o, none⟩) xs y A' tv' todo' _ (HP.out _ hb7.out) HS.out HN.out (hD6.out.len.trans HN.out) hRv7.out (by have := todo_le (show reachMu (A', todo') ≤ gk by have := HMu6.out; omega); omega)).mono ?_
              rintro e w8 ⟨rfl, A8, todo8, tv8, hst, hRv8, hF, hnb⟩
              have hD8 : Hid (DInv xs rts A8 todo8 ((es.map (·.print)).drop (j + 1))) := by
                have h1 := hD6.out
                rw [HDr.out] at h1
                have := dinv_step HS.out h1
                rw [hst] at this
                exact this
              have hmu8 : reachMu (A8, todo8) + 1 ≤ gk := by
                have h1 := reachMu_step xs y (A', todo')
                rw [hst] at h1
                have := HMu6.out
                omega
              have hb8 : Below w.heap.size w w8 := hb7.out.trans (hF.below (fun g' e => by
                have hl := hRv7.out.lt
                rcases e with e | e | e
                · omega
                · omega
                · have := (hRv7.out.own.lt g' e).1; omega) hb7.out.size)
              have hol8 : OwnE w8 W4.heap.size (.slice (some ⟨eb, eo, none⟩) mm lc) es := hol7.out.frm hF (fun g' hg' e => by
                have h5 := hlt5.out g' hg'
                have hl := hRv7.out.lt
                rcases e with e | e | e
                · omega
                · omega
                · rcases hpb6.out g' e with h6 | h6
                  · omega
                  · omega)
              have hsz8 : w5.heap.size ≤ w8.heap.size := by have := hF.size; have := HS7.out; omega
              have hpb8 : Hid (∀ g', tv8.ownBlock = some g' → g' < W4.heap.size ∨ w5.heap.size ≤ g') := hid fun g' hg' => by
                rcases hnb g' hg' with h6 | h6
                · exact hpb6.out g' h6
                · have := HS7.out; exact .inr (by omega)
              clear hst hF hnb hD6
              go_wp2
              go_roundw
              case rel => exact ⟨j + 1, A8, todo8, tv8, by omega, by go_num, hRv8, hD8, hmu8, hol8, hpb8, hb8, hsz8⟩
              case measure => simp [intOf]; omega
            · have HD9 := hid (show DInv xs rts A' todo' [] by have := hD6.out; rw [List.drop_eq_nil_of_le (by rw [List.length_map, HM.out]; omega)] at this; exact this)
              go_wp2
              go_roundg (gk - 1)
              case measure => omega
              case rel => exact ⟨A', todo', tv', hRv6, HD9, by omega, by omega, hb6⟩

end Go.Proofs.YtachfmlfmpaddaaGreatDoor
