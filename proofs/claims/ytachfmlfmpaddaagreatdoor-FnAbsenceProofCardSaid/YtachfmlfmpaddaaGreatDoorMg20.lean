/- Walks and plain facts, joined: Wrt2, GoodP, ReachP. -/
import Derived.Test.YtachfmlfmpaddaaGreatDoorMg16
set_option linter.unusedVariables false
set_option linter.unusedSimpArgs false

/- Walks: a path's words, the reference's way. -/
namespace Go.Proofs.YtachfmlfmpaddaaGreatDoor
open Go.RowKit

theorem split_succ {l : List UInt8} {k : Nat} {c : UInt8} (h : l[k]? = some c) : (l.take (k + 1)).foldl splitStep [] = splitStep ((l.take k).foldl splitStep []) c := foldl_succ _ _ h
theorem split_slash (acc : List (List UInt8)) : splitStep acc 47 = acc ++ [[]] := by unfold splitStep; rw [if_pos rfl]
theorem split_none {c : UInt8} (h : c ≠ 47) : splitStep [] c = [] := by unfold splitStep; rw [if_neg h, if_pos rfl]
theorem split_more {c : UInt8} (h : c ≠ 47) (L : List (List UInt8)) (x : List UInt8) : splitStep (L ++ [x]) c = L ++ [x ++ [c]] := by
  unfold splitStep
  rw [if_neg h, if_neg (by simp)]
  simp
theorem nil_or_snoc' {α : Type} (l : List α) : l = [] ∨ ∃ (t : List α) (i : α), l = t ++ [i] := by
  rcases List.eq_nil_or_concat l with h | ⟨t, x, h⟩
  · exact .inl h
  · exact .inr ⟨t, x, by simpa using h⟩
theorem strs_bs (l : List (List UInt8)) : (l.map strL).map bs = l := by
  rw [List.map_map]
  conv => rhs; rw [← List.map_id l]
  refine List.map_congr_left (fun x _ => ?_)
  simp [bs_strL]

set_option maxHeartbeats 2000000 in
set_option maxRecDepth 100000 in
theorem spec_PathParts_c (s : ByteArray) (w : World) (hs : s.size ≤ 900) :
    Calls Tryz.prog 72 #[.string s] w fun e w' => ∃ v', e = .returned (.tuple #[v', .bool (pathParts (bs s)).isSome]) ∧ OwnS w' w.heap.size v' (((pathParts (bs s)).getD []).map strL) ∧ Below w.heap.size w w' := by
  have hal : Below w.heap.size w (w.alloc (.cells #[] 9)) := (Below.refl _ _).alloc (Nat.le_refl _) _
  have hown0 : OwnS (w.alloc (.cells #[] 9)) w.heap.size (.slice (some ⟨w.heap.size, 0, none⟩) 0 0) [] := Own.made _ (Nat.le_refl _)
  have hb1 := str_beq' s [47]
  rw [show (strL [47]).toList = [47] by rw [ByteArray.toList_eq]; rfl] at hb1
  by_cases h1 : bs s = [47]
  · have HO := hid (show pathParts (bs s) = some [] by unfold pathParts; rw [if_pos h1])
    have hq : (s.toList == [47]) = true := by rw [hb1]; exact decide_eq_true h1
    clear hb1 h1
    go_enter Tryz.func72, Tryz.ntmps72
    go_wp2
    go_ret2
    exact ⟨_, by rw [HO.out]; rfl, by rw [HO.out]; exact hown0, hal⟩
  · have hq : (s.toList == [47]) = false := by rw [hb1]; exact decide_eq_false h1
    have H1 := hid h1
    clear hb1 h1
    go_enter Tryz.func72, Tryz.ntmps72
    go_wp2
    go_loopw [4, 5] (fun out iv wr => ∃ (k : Nat) (acc : List (List UInt8)), k ≤ s.size ∧ iv = .int .i64 k ∧ OwnS wr w.heap.size out (acc.map strL) ∧ Hid (acc = ((bs s).take k).foldl splitStep []) ∧ acc.length ≤ k ∧ Hid (∀ x ∈ acc, x.length ≤ k) ∧ Below w.heap.size w wr) (fun _ iv _ => s.size - (intOf iv).toNat)
    case atStart => exact ⟨0, [], Nat.zero_le _, rfl, hown0, rfl, Nat.zero_le _, hid (by simp), hal⟩
    case round =>
      obtain ⟨k, acc, hk, rfl, hown, hacc, hlen, hsz, hb⟩ := hrel
      clear hown0 hal
      by_cases hlt : k < s.size
      · have hx := bs_get s hlt
        have hB := hb.size
        by_cases hc : s[k] = 47
        · have HF := hid ((split_succ hx).trans (by rw [hc, ← hacc.out, split_slash]))
          have hd0 : (s[k].toNat : Int) = 47 := by rw [hc]; rfl
          clear hx hc
          go_wp2_with (at_builtin; refine push_str (w0 := w) rfl _ _ rfl w.heap.size w.heap.size _ (acc.map strL) ⟨#[]⟩ hown hb hB (Nat.le_refl _) rfl rfl (by simp; omega) ?_; intro v' w' hown' hb' hB' hg')
          go_roundw
          case rel => exact ⟨k + 1, acc ++ [[]], by omega, by go_num, by rw [List.map_append]; exact hown', hid HF.out.symm, by simp; omega, hid (fun x hx' => by
            rcases List.mem_append.1 hx' with h | h
            · have := hsz.out x h; omega
            · obtain rfl : x = [] := by simpa using h
              simp), hb'⟩
          case measure => simp [intOf]; omega
        · have hd0 : ¬ (s[k].toNat : Int) = 47 := by
            intro e
            have : s[k].toNat = 47 := by omega
            exact hc (UInt8.toNat_inj.1 this)
          have HC := hid hc
          have HX := hid hx
          clear hx hc
          rcases nil_or_snoc' acc with rfl | ⟨L, x, rfl⟩
          · have HF := hid ((split_succ HX.out).trans (by rw [← hacc.out, split_none HC.out]))
            obtain ⟨a0, c0, rfl, _, _, _⟩ := (Rd.of_own hown).strs (n := 0) rfl
            go_wp2
            go_roundw
            case rel => exact ⟨k + 1, [], by omega, by go_num, hown, hid HF.out.symm, by simp, hid (by simp), hb⟩
            case measure => simp [intOf]; omega
          · have HF := hid ((split_succ HX.out).trans (by rw [← hacc.out, split_more HC.out]))
            obtain ⟨m, hm⟩ : ∃ m, L.length = m := ⟨_, rfl⟩
            have hln : ((L ++ [x]).map strL).length = m + 1 := by simp [hm]
            have hxl := hsz.out x (by simp)
            rcases hown.2 with ⟨_, h00⟩ | ⟨g, cap, cur, hv, hge, hh, hnc, hcm, hcs, htk⟩
            · omega
            rw [hln] at hv
            subst hv
            have hR : wr.ownsRow w.heap.size 9 1 (.slice (some ⟨g, 0, none⟩) (m + 1) cap) (m + 1) ((L.map strL).flatMap encS ++ [.string (strL x)]) := by
              have := hown
              unfold OwnS Own at this
              rw [hln] at this
              simpa [encS] using this
            have hfl : ((L.map strL).flatMap encS).length = m := by rw [← List.map_eq_flatMap]; simp [hm]
            have d0 : wr.cell? ⟨g, m, none⟩ = some (.string (strL x)) := (hR.cellAt m (by omega)).trans (by rw [List.getElem?_append_right (by omega), hfl]; simp)
            have f0 : wr.frozen? ⟨g, m, none⟩ = false := hR.frozenAt m
            have hxe : s.extract k (k + 1) = strL [s[k]] := by
              rw [ext_strL, take_snoc' HX.out, List.drop_append, List.drop_of_length_le (by simp; omega), show k - ((bs s).take k).length = 0 by simp; omega]
              rfl
            have hcat : strL x ++ s.extract k (k + 1) = strL (x ++ [s[k]]) := by rw [hxe, strL_append]
            have hs1 := strL_size x
            have hq1 : (strL x).size + (s.extract k (k + 1)).size ≤ 9223372036854775807 := by rw [hxe, strL_size, strL_size]; simp; omega
            have HST := hid (hR.stored m (.string (strL x ++ s.extract k (k + 1))))
            have HCAT := hid hcat
            have HFL := hid hfl
            have hkk : (k : Int) + 1 ≤ s.size := by omega
            have hmk : m + 1 ≤ k := by simp at hlen; omega
            have hw1 : IntKind.i64.wrap (m : Int) = (m : Int) := IntWalk.i64_in _ (by omega)
            have hw2 : wrap64 (m : Int) = (m : Int) := by unfold wrap64; omega
            have HM := hid hm
            have HGE := hid hge
            clear hh hnc hcm hcs htk hR hfl hxe hcat hm hown hln hge
            go_wp2
            refine wp_region_early (n := 17) _ rfl rfl (by kernel_rfl) (by kernel_rfl) (fun _ _ _ _ h => h) ?_
            simp only [List.take_succ_cons, List.take_zero, List.drop_succ_cons, List.drop_zero, Act.put, Act.eval, List.setIfInBounds_toArray, List.set_cons_succ, List.set_cons_zero]
            repeat (go_big_quiet_step (fail))
            refine wpQuiet_nil ?_
            intro q6
            go_wp2
            go_roundw
            case rel =>
              refine ⟨k + 1, L ++ [x ++ [s[k]]], by omega, by go_num, ?_, hid HF.out.symm, by simp at hlen ⊢; omega, hid (fun y hy => ?_), (hb.trans (bl_drewN (Below.refl _ _) q6)).setCell HGE.out _⟩
              · have h1 := HST.out.1
                rw [HCAT.out, List.set_append_right _ _ (by rw [HFL.out]; omega), HFL.out, Nat.sub_self] at h1
                unfold OwnS Own
                rw [show ((L ++ [x ++ [s[k]]]).map strL).length = m + 1 by simp [HM.out]]
                have h2 : ((L ++ [x ++ [s[k]]]).map strL).flatMap encS = (L.map strL).flatMap encS ++ [.string (strL (x ++ [s[k]]))] := by simp [encS]
                rw [h2]
                rw [HCAT.out]
                exact h1
              · rcases List.mem_append.1 hy with h | h
                · have := hsz.out y (by simp [h]); omega
                · obtain rfl : y = x ++ [s[k]] := by simpa using h
                  simp; omega
            case measure => simp [intOf]; omega
      · have HF := hid (show acc = splitP (bs s) by rw [hacc.out, take_all (bs_len s) (show s.size ≤ k by omega)]; rfl)
        by_cases hs0 : 0 < s.size
        · have hem : s.toList.isEmpty = false := by
            rw [← strL_bs s]
            exact strL_nem (by intro e; have := bs_len s; rw [e] at this; simp at this; omega)
          have hne : bs s ≠ [] := by intro e; have := bs_len s; rw [e] at this; simp at this; omega
          have HNE := hid hne
          have hjl : (acc.map strL).length ≤ 1000 := by simp; omega
          have hjs : ∀ x ∈ acc.map strL, x.size ≤ 1000 := fun x hx => by
            obtain ⟨y, hy, rfl⟩ := List.mem_map.1 hx
            have := hsz.out y hy
            rw [strL_size]; omega
          have HJL := hid hjl
          have HJS := hid hjs
          have hbq := str_beq s (joinP acc)
          have HJ := hid (show joinP ((acc.map strL).map bs) = joinP acc by rw [strs_bs])
          clear hne hjl hjs
          by_cases hj : joinP acc = bs s
          · have HO := hid (show pathParts (bs s) = some acc by unfold pathParts; rw [if_neg H1.out, ← HF.out, if_pos ⟨HNE.out, hj⟩])
            have hbt : ((strL (joinP acc)).toList == s.toList) = true := by rw [hbq]; exact decide_eq_true hj
            clear hbq hj
            go_wp2_with (go_at_call 76; refine (spec_JoinPath_c _ _ _ (Rd.of_own hown) HJS.out HJL.out).mono ?_; rw [HJ.out]; rintro e w' ⟨rfl, rfl⟩)
            go_ret2
            exact ⟨_, by rw [HO.out]; rfl, by rw [HO.out]; exact hown, hb⟩
          · have HO := hid (show pathParts (bs s) = none by unfold pathParts; rw [if_neg H1.out, ← HF.out, if_neg (fun h => hj h.2)])
            have hbt : ((strL (joinP acc)).toList == s.toList) = false := by rw [hbq]; exact decide_eq_false hj
            have hal2 := hid (hb.alloc hb.size (.cells #[] 9))
            have hown2 : Hid (OwnS (wr.alloc (.cells #[] 9)) w.heap.size (.slice (some ⟨wr.heap.size, 0, none⟩) 0 0) []) := hid (Own.made _ hb.size)
            clear hbq hj
            go_wp2_with (go_at_call 76; refine (spec_JoinPath_c _ _ _ (Rd.of_own hown) HJS.out HJL.out).mono ?_; rw [HJ.out]; rintro e w' ⟨rfl, rfl⟩)
            go_ret2
            exact ⟨_, by rw [HO.out]; rfl, by rw [HO.out]; exact hown2.out, hal2.out⟩
        · have hem : s.toList.isEmpty = true := by
            have : bs s = [] := List.length_eq_zero_iff.1 (by rw [bs_len]; omega)
            rw [← strL_bs s, this]
            exact strL_emp
          have HO := hid (show pathParts (bs s) = none by
            have : bs s = [] := List.length_eq_zero_iff.1 (by rw [bs_len]; omega)
            unfold pathParts; rw [if_neg H1.out, if_neg (fun h => h.1 this)])
          have hal2 := hid (hb.alloc hb.size (.cells #[] 9))
          have hown2 : Hid (OwnS (wr.alloc (.cells #[] 9)) w.heap.size (.slice (some ⟨wr.heap.size, 0, none⟩) 0 0) []) := hid (Own.made _ hb.size)
          go_wp2
          go_ret2
          exact ⟨_, by rw [HO.out]; rfl, by rw [HO.out]; exact hown2.out, hal2.out⟩

end Go.Proofs.YtachfmlfmpaddaaGreatDoor

/- Drawn stores: no folder leads to itself, and nothing that is named is missing. No program in sight. -/
namespace Go.Proofs.YtachfmlfmpaddaaGreatDoor
open Go.RowKit

/-- What the folder of a text names. -/
noncomputable def nmd (t : ByteArray) : List Int := (entsOf (bs t)).map (·.print)
/-- Ranks fall from a folder to what it names; what is named is there, or it is L. -/
def GoodL (s : List Pc) (L : Int) : Prop := storeOk s = true ∧ ∃ rank : Int → Nat, ∀ n t, getP s n = some t → ∀ y ∈ nmd t, y = L ∨ (hasP s y = true ∧ rank y < rank n)
def Good (s : List Pc) : Prop := storeOk s = true ∧ ∃ rank : Int → Nat, ∀ n t, getP s n = some t → ∀ y ∈ nmd t, hasP s y = true ∧ rank y < rank n
theorem Good.l {s : List Pc} (h : Good s) (L : Int) : GoodL s L := ⟨h.1, h.2.imp fun _ hr n t hg y hy => .inr (hr n t hg y hy)⟩
theorem nmd_pv {t : ByteArray} {y : Int} (h : y ∈ nmd t) : pv y = true := by
  unfold nmd at h
  obtain ⟨e, he, rfl⟩ := List.mem_map.1 h
  exact (entOk_iff.1 (ents_all (entsOf_ok _) he)).2
theorem GoodL.good {s : List Pc} (h : GoodL s (-1)) : Good s := by
  refine ⟨h.1, h.2.imp fun r hr n t hg y hy => ?_⟩
  rcases hr n t hg y hy with rfl | h1
  · have := nmd_pv hy; simp [pv, inB] at this
  · exact h1
theorem nmd_file {t : ByteArray} (h : isFile (bs t) = true) : nmd t = [] := by unfold nmd entsOf; rw [file_no_folder h]; rfl
theorem nmd_folder {es : List Ent} (h : entsOk es = true) : nmd (strL (folderText es)) = es.map (·.print) := by unfold nmd entsOf; rw [bs_strL, readFolder_self h]; rfl
theorem has_get {s : List Pc} {n : Int} (h : hasP s n = true) : ∃ t, getP s n = some t := by unfold hasP at h; exact Option.isSome_iff_exists.1 h
theorem get_has {s : List Pc} {n : Int} {t : ByteArray} (h : getP s n = some t) : hasP s n = true := by unfold hasP; rw [h]; rfl
theorem Le.has {s x : List Pc} (h : Le s x) {n : Int} (hn : hasP s n = true) : hasP x n = true := by obtain ⟨t, ht⟩ := has_get hn; exact get_has (h _ _ ht)

theorem sum_ge {f : Int → Nat} : ∀ {l : List Int} {y : Int}, y ∈ l → f y ≤ (l.map f).sum
  | x :: r, y, h => by
    rw [List.map_cons, List.sum_cons]
    rcases List.mem_cons.1 h with rfl | h
    · omega
    · have := sum_ge (f := f) h; omega
theorem goodL_put {s : List Pc} {L : Int} {t : ByteArray} (h : GoodL s L) (hp : (putS s t).2.2 = true) (hn : ∀ y ∈ nmd t, y = L ∨ hasP s y = true) : GoodL (putS s t).1 L := by
  obtain ⟨hs, rank, hr⟩ := h
  obtain ⟨h1, h2, h3, h4⟩ := put_get hs hp
  have hle : Le s (putS s t).1 := fun n u hu => (h4 n u).2 (.inl hu)
  cases hg : getP s (printOf (bs t)) with
  | some u =>
    have hu : u = t := by
      have e1 := (h4 _ _).2 (.inl hg)
      have e2 := (h4 (printOf (bs t)) t).2 (.inr ⟨rfl, rfl⟩)
      rw [e1] at e2; exact Option.some.inj e2
    subst hu
    refine ⟨h1, rank, fun n v hv y hy => ?_⟩
    have hv' : getP s n = some v := by
      rcases (h4 n v).1 hv with h5 | ⟨rfl, rfl⟩
      · exact h5
      · exact hg
    exact (hr n v hv' y hy).imp id fun h5 => ⟨hle.has h5.1, h5.2⟩
  | none =>
    have hnq : ∀ y, hasP s y = true → y ≠ printOf (bs t) := fun y hy e => by subst e; unfold hasP at hy; rw [hg] at hy; cases hy
    refine ⟨h1, fun n => if n = printOf (bs t) then ((nmd t).map rank).sum + 1 else rank n, fun n v hv y hy => ?_⟩
    rcases (h4 n v).1 hv with h5 | ⟨rfl, rfl⟩
    · rcases hr n v h5 y hy with h6 | ⟨h6, h7⟩
      · exact .inl h6
      · right
        refine ⟨hle.has h6, ?_⟩
        simp only []
        rw [if_neg (hnq y h6), if_neg (hnq n (get_has h5))]
        exact h7
    · rcases hn y hy with h6 | h6
      · exact .inl h6
      · right
        refine ⟨hle.has h6, ?_⟩
        simp only []
        rw [if_neg (hnq y h6), if_pos trivial]
        have := sum_ge (f := rank) hy
        omega
/-- The last text is the one that was missing, a file. -/
theorem goodL_last {s : List Pc} {t : ByteArray} (h : GoodL s (printOf (bs t))) (hp : (putS s t).2.2 = true) (hf : isFile (bs t) = true) : Good (putS s t).1 := by
  have h0 := goodL_put h hp (by rw [nmd_file hf]; simp)
  obtain ⟨hs, rank, hr⟩ := h0
  have hL := ((put_get h.1 hp).2.2.2 (printOf (bs t)) t).2 (.inr ⟨rfl, rfl⟩)
  refine ⟨hs, fun n => if n = printOf (bs t) then 0 else rank n + 1, fun n v hv y hy => ?_⟩
  have hne : n ≠ printOf (bs t) := by
    rintro rfl
    rw [hL] at hv
    obtain rfl := Option.some.inj hv
    rw [nmd_file hf] at hy; simp at hy
  simp only []
  rw [if_neg hne]
  rcases hr n v hv y hy with rfl | ⟨h6, h7⟩
  · rw [if_pos rfl]; exact ⟨get_has hL, by omega⟩
  · refine ⟨h6, ?_⟩
    split <;> omega
/-- Each text names what is there, what was put ahead of it, or L. -/
def Chain (s : List Pc) (L : Int) : List ByteArray → Prop
  | [] => True
  | t :: r => (∀ y ∈ nmd t, y = L ∨ hasP s y = true) ∧ ((putS s t).2.2 = true → Chain (putS s t).1 L r)
theorem chain_good : ∀ (T : List ByteArray) {s s' : List Pc} {L : Int}, GoodL s L → Chain s L T → putAll s T = some s' → GoodL s' L
  | [], s, s', L, h, _, hp => by simp only [putAll, Option.some.injEq] at hp; rw [← hp]; exact h
  | t :: r, s, s', L, h, hc, hp => by
    unfold putAll at hp
    split at hp
    · rename_i h1
      exact chain_good r (goodL_put h h1 hc.1) (hc.2 h1) hp
    · cases hp
theorem chain_app : ∀ (T : List ByteArray) {s : List Pc} {L : Int} {t : ByteArray}, Chain s L T → (∀ s1, putAll s T = some s1 → ∀ y ∈ nmd t, y = L ∨ hasP s1 y = true) → Chain s L (T ++ [t])
  | [], s, L, t, _, h => ⟨h s rfl, fun _ => trivial⟩
  | x :: r, s, L, t, hc, h => ⟨hc.1, fun h1 => chain_app r (hc.2 h1) (fun s1 hs1 => h s1 (by unfold putAll; rw [if_pos h1]; exact hs1))⟩
theorem upT_chain {s : List Pc} (hs : Good s) (leaf : Int) (hl : pv leaf = true) : ∀ (FZ : List (List Ent × ByteArray)) (T : List ByteArray) (p : Int), (∀ x ∈ FZ, ∀ e ∈ x.1, hasP s e.print = true) → upT FZ leaf = some (T, p) →
    Chain s leaf T ∧ (p = leaf ∨ ∀ s1, putAll s T = some s1 → hasP s1 p = true)
  | [], T, p, _, h => by
    simp only [upT, Option.some.injEq, Prod.mk.injEq] at h
    rw [← h.1]; exact ⟨trivial, .inl h.2.symm⟩
  | (es, nm) :: r, T, p, hF, h => by
    unfold upT at h
    cases hu : upT r leaf with
    | none => rw [hu] at h; cases h
    | some TP =>
      obtain ⟨T0, ch⟩ := TP
      rw [hu] at h
      simp only [] at h
      split at h
      · rename_i hpe
        simp only [Option.some.injEq, Prod.mk.injEq] at h
        obtain ⟨rfl, rfl⟩ := h
        obtain ⟨c1, c2⟩ := upT_chain hs leaf hl r T0 ch (fun x hx => hF x (by simp [hx])) hu
        obtain ⟨e1, e2, e3⟩ := putEnt_ok hpe
        rw [e3]
        refine ⟨chain_app T0 c1 (fun s1 hs1 y hy => ?_), .inr (fun s1 hs1 => ?_)⟩
        · rw [nmd_folder e2] at hy
          obtain ⟨e, he, rfl⟩ := List.mem_map.1 hy
          rcases (putE_mem (ents_asc e1)).1 he with rfl | he
          · exact c2.imp id (fun c => c s1 hs1)
          · exact .inr ((putAll_le hs.1 hs1).2.1.has (hF (es, nm) (by simp) e he.1))
        · have := (putAll_le hs.1 hs1).2.2 (strL (folderText (putE es ⟨nm, ch⟩))) (by simp)
          rw [bs_strL] at this
          exact get_has this.2
      · cases h
theorem folder_names {s : List Pc} (hs : Good s) {pr : Int} {es : List Ent} (h : folderAt s pr = some es) : ∀ e ∈ es, hasP s e.print = true := by
  intro e he
  unfold folderAt at h
  cases hg : getP s pr with
  | none => rw [hg] at h; cases h
  | some t =>
    rw [hg] at h
    have h1 : readFolder (bs t) = some es := h
    obtain ⟨rank, hr⟩ := hs.2
    exact (hr pr t hg e.print (by unfold nmd entsOf; rw [h1]; exact List.mem_map.2 ⟨e, he, rfl⟩)).1
theorem way_names {s : List Pc} (hs : Good s) : ∀ (parts : List ByteArray) (q : Option Int) (F : List (List Ent)) (z : Option Int), wayW s q parts = some (F, z) → ∀ es ∈ F, ∀ e ∈ es, hasP s e.print = true
  | [], q, F, z, h => by simp [wayW] at h; rw [h.1]; simp
  | nm :: r, q, F, z, h => by
    unfold wayW at h
    split at h
    · cases h
    · rename_i es hes
      split at h
      · cases h
      · rename_i F' z' hw
        simp only [Option.some.injEq, Prod.mk.injEq] at h
        rw [← h.1]
        intro x hx
        rcases List.mem_cons.1 hx with rfl | hx
        · cases q with
          | none => simp [folderQ] at hes; subst hes; simp
          | some pr => exact folder_names hs hes
        · exact way_names hs r _ F' z' hw x hx
theorem write_good {s s' : List Pc} {root p : Int} {ws : List ByteArray} {content : List UInt8} (hs : Good s) (hc : contOk content = true) (h : writeTo s root ws content = some (s', p)) : Good s' := by
  have hft := file_textOk hc
  unfold writeTo at h
  cases hw : wayW s (some root) ws with
  | none => rw [hw] at h; cases h
  | some FZ =>
    obtain ⟨F, z⟩ := FZ
    rw [hw] at h
    simp only [] at h
    split at h
    · cases h
    · cases hu : upT (F.zip ws) (printOf (fileText content)) with
      | none => rw [hu] at h; cases h
      | some TP =>
        obtain ⟨T, p'⟩ := TP
        rw [hu] at h
        simp only [] at h
        rw [putAll_same (T' := T ++ [strL (fileText content)]) hs.1 (fun t => by simp [or_comm]), putAll_append] at h
        have hch := (upT_chain hs _ (printOf_pv hft.1) (F.zip ws) T p' (fun x hx e he => way_names hs ws _ F z hw x.1 (List.of_mem_zip hx).1 e he) hu).1
        cases hpa : putAll s T with
        | none => rw [hpa] at h; cases h
        | some s1 =>
          rw [hpa] at h
          simp only [Option.bind_some] at h
          rw [putAll_one] at h
          have hg := chain_good T (hs.l _) hch hpa
          by_cases hput : (putS s1 (strL (fileText content))).2.2 = true
          · rw [if_pos hput] at h
            simp only [Option.some.injEq, Prod.mk.injEq] at h
            rw [← h.1]
            refine goodL_last ?_ hput (by rw [bs_strL]; exact hft.2)
            rw [bs_strL]; exact hg
          · rw [if_neg hput] at h
            cases h
theorem dropT_chain {s : List Pc} (hs : Good s) : ∀ (FZ : List (List Ent × ByteArray)) (T : List ByteArray) (p : Int), Named FZ → (∀ x ∈ FZ, ∀ e ∈ x.1, hasP s e.print = true) → dropT FZ = some (T, p) →
    Chain s (-1) T ∧ ∀ s1, putAll s T = some s1 → hasP s1 p = true
  | [], T, p, _, _, h => by cases h
  | (es, nm) :: r, T, p, hN, hF, h => by
    have ho := hN (es, nm) (by simp)
    have hr : Named r := fun x hx => hN x (by simp [hx])
    unfold dropT at h
    cases hd : dropT r with
    | none =>
      rw [hd] at h
      simp only [] at h
      split at h
      · cases h
      · simp only [Option.some.injEq, Prod.mk.injEq] at h
        obtain ⟨rfl, rfl⟩ := h
        have hok := dropE_ok ho.1 nm
        refine ⟨⟨fun y hy => ?_, fun _ => trivial⟩, fun s1 hs1 => ?_⟩
        · rw [nmd_folder hok] at hy
          obtain ⟨e, he, rfl⟩ := List.mem_map.1 hy
          exact .inr (hF (es, nm) (by simp) e (dropE_mem.1 he).1)
        · have := (putAll_le hs.1 hs1).2.2 _ (by simp; rfl)
          rw [bs_strL] at this
          exact get_has this.2
    | some TP =>
      obtain ⟨T0, ch⟩ := TP
      rw [hd] at h
      simp only [Option.some.injEq, Prod.mk.injEq] at h
      obtain ⟨rfl, rfl⟩ := h
      obtain ⟨c, hc⟩ := ho.2
      have hch := dropT_pv hr hd
      have e2 := putE_there ho.1 hc hch
      rw [putEnt_on ho.1 e2]
      obtain ⟨c1, c2⟩ := dropT_chain hs r T0 ch hr (fun x hx => hF x (by simp [hx])) hd
      refine ⟨chain_app T0 c1 (fun s1 hs1 y hy => ?_), fun s1 hs1 => ?_⟩
      · rw [nmd_folder e2] at hy
        obtain ⟨e, he, rfl⟩ := List.mem_map.1 hy
        rcases (putE_mem (ents_asc ho.1)).1 he with rfl | he
        · exact .inr (c2 s1 hs1)
        · exact .inr ((putAll_le hs.1 hs1).2.1.has (hF (es, nm) (by simp) e he.1))
      · have := (putAll_le hs.1 hs1).2.2 (strL (folderText (putE es ⟨nm, ch⟩))) (by simp)
        rw [bs_strL] at this
        exact get_has this.2
theorem wayD_names {s : List Pc} (hs : Good s) : ∀ (parts : List ByteArray) (pr : Int), ∀ x ∈ wayD s pr parts, ∀ e ∈ x.1, hasP s e.print = true
  | [], _, x, hx => by simp [wayD] at hx
  | nm :: r, pr, x, hx => by
    unfold wayD at hx
    rcases List.mem_cons.1 hx with rfl | hx
    · intro e he
      simp only [entsOf_at] at he
      cases hf : folderAt s pr with
      | none => rw [hf] at he; simp at he
      | some es => rw [hf] at he; exact folder_names hs hf e he
    · exact wayD_names hs r _ x hx
theorem entsOk_nil : entsOk [] = true := rfl
theorem drop_good {s s' : List Pc} {root p : Int} {ws : List ByteArray} (hs : Good s) (hn : Named (wayD s root ws)) (h : dropOff s root ws = some (s', p)) : Good s' := by
  unfold dropOff dropTs at h
  cases hd : dropT (wayD s root ws) with
  | none =>
    rw [hd] at h
    simp only [Option.getD_none] at h
    cases hpa : putAll s [strL (folderText [])] with
    | none => rw [hpa] at h; cases h
    | some s1 =>
      rw [hpa] at h
      simp only [Option.some.injEq, Prod.mk.injEq] at h
      rw [← h.1]
      have hch : Chain s (-1) [strL (folderText [])] := ⟨fun y hy => by rw [nmd_folder entsOk_nil] at hy; simp at hy, fun _ => trivial⟩
      exact (chain_good _ (hs.l (-1)) hch hpa).good
  | some TP =>
    obtain ⟨T, p'⟩ := TP
    rw [hd] at h
    simp only [Option.getD_some] at h
    cases hpa : putAll s T with
    | none => rw [hpa] at h; cases h
    | some s1 =>
      rw [hpa] at h
      simp only [Option.some.injEq, Prod.mk.injEq] at h
      rw [← h.1]
      exact (chain_good _ (hs.l (-1)) (dropT_chain hs _ T p' hn (wayD_names hs ws root) hd).1 hpa).good

/-- Good stores stay good. -/
theorem writeAt_good {s : List Pc} {root : Int} {path content : List UInt8} {ws : List (List UInt8)} (hs : Good s) (hp : pathParts path = some ws) (h0 : ws ≠ []) (hc : contOk content = true) :
    Good (writeAt s root path content).1 ∧ Le s (writeAt s root path content).1 := by
  rw [writeAt_eq hs.1 hp h0 hc]
  cases h : writeTo s root (ws.map strL) content with
  | none => exact ⟨hs, Le.rfl' s⟩
  | some r =>
    obtain ⟨s', p⟩ := r
    refine ⟨write_good hs hc h, ?_⟩
    unfold writeTo at h
    split at h
    · cases h
    · split at h
      · cases h
      · split at h
        · cases h
        · split at h
          · cases h
          · rename_i hpa
            simp only [Option.some.injEq, Prod.mk.injEq] at h
            rw [← h.1]
            exact (putAll_le hs.1 hpa).2.1
theorem dropAt_good {s : List Pc} {root : Int} {path : List UInt8} {ws : List (List UInt8)} (hs : Good s) (hp : pathParts path = some ws) (h0 : ws ≠ []) :
    Good (dropAt s root path).1 ∧ Le s (dropAt s root path).1 := by
  by_cases hw : (walkAt s root (ws.map strL)).2 = true
  · rw [dropAt_eq hs.1 hp h0 hw]
    cases h : dropOff s root (ws.map strL) with
    | none => exact ⟨hs, Le.rfl' s⟩
    | some r =>
      obtain ⟨s', p⟩ := r
      refine ⟨drop_good hs (walk_named _ _ _ hw) h, ?_⟩
      unfold dropOff at h
      split at h
      · cases h
      · rename_i hpa
        simp only [Option.some.injEq, Prod.mk.injEq] at h
        rw [← h.1]
        exact (putAll_le hs.1 hpa).2.1
  · unfold dropAt
    rw [hp]
    simp only []
    rw [if_neg (fun h => h.elim (fun h => by rw [hs.1] at h; cases h) h0), if_pos (by simpa using hw)]
    exact ⟨hs, Le.rfl' s⟩

end Go.Proofs.YtachfmlfmpaddaaGreatDoor

/- What roots reach in a store, in plain Lean. -/
namespace Go.Proofs.YtachfmlfmpaddaaGreatDoor
open Go.RowKit

/-- A set of prints that has the roots that are there, and with a piece all that its folder names and that is there. -/
def Shut (l : List Pc) (roots : List Int) (S : Int → Prop) : Prop :=
  (∀ y ∈ roots, hasP l y = true → S y) ∧ ∀ x ∈ l, S x.print → ∀ y ∈ prs x, hasP l y = true → S y
def Rch (l : List Pc) (roots : List Int) (y : Int) : Prop := ∀ S : Int → Prop, Shut l roots S → S y
theorem rch_root {l : List Pc} {roots : List Int} {y : Int} (h : y ∈ roots) (hy : hasP l y = true) : Rch l roots y := fun _ hS => hS.1 y h hy
theorem rch_step {l : List Pc} {roots : List Int} {x : Pc} {y : Int} (hx : x ∈ l) (h : Rch l roots x.print) (hy : y ∈ prs x) (hp : hasP l y = true) : Rch l roots y := fun S hS => hS.2 x hx (h S hS) y hy hp
noncomputable def inR (l : List Pc) (roots : List Int) (y : Int) : Bool := @decide (Rch l roots y) (Classical.propDecidable _)
theorem inR_iff {l : List Pc} {roots : List Int} {y : Int} : inR l roots y = true ↔ Rch l roots y := by unfold inR; simp
noncomputable def reachB (l : List Pc) (roots : List Int) : List Bool := l.map fun p => inR l roots p.print
noncomputable def reachOf (l : List Pc) (roots : List Int) : List Int := if storeOk l then (l.filter fun p => inR l roots p.print).map (·.print) else []
/-- The piece with a print is marked. -/
def OnA (A : List Bool) (l : List Pc) (y : Int) : Prop := ∃ (i : Nat) (x : Pc), A[i]? = some true ∧ l[i]? = some x ∧ x.print = y
theorem print_one {l : List Pc} (hs : storeOk l = true) {i j : Nat} {x z : Pc} (hi : l[i]? = some x) (hj : l[j]? = some z) (h : x.print = z.print) : i = j := by
  rcases Nat.lt_trichotomy i j with h1 | h1 | h1
  · have := asc_get (st_asc hs) hi hj h1; omega
  · exact h1
  · have := asc_get (st_asc hs) hj hi h1; omega
theorem has_mem {l : List Pc} {x : Pc} (h : x ∈ l) : hasP l x.print = true := hasP_iff.2 ⟨x, h, rfl⟩
theorem has_spot {l : List Pc} {y : Int} (hs : storeOk l = true) (h : hasP l y = true) : ∃ x, l[findAt l y]? = some x ∧ x.print = y := by
  refine Classical.byContradiction (fun hc => ?_)
  have := find_no (st_asc hs) (n := y) (fun x hx e => hc ⟨x, hx, e⟩)
  unfold hasP at h
  rw [this] at h; cases h

/-- Marks that are right as far as they go and lack nothing are those of what is reached. -/
theorem marks_all {l : List Pc} {roots : List Int} {A : List Bool} (hs : storeOk l = true) (hl : A.length = l.length)
    (snd : ∀ (i : Nat) (x : Pc), A[i]? = some true → l[i]? = some x → Rch l roots x.print) (cpl : ∀ (i : Nat) (x : Pc), l[i]? = some x → Rch l roots x.print → A[i]? = some true) : A = reachB l roots := by
  apply List.ext_getElem?
  intro i
  unfold reachB
  rw [List.getElem?_map]
  cases hx : l[i]? with
  | none =>
    have := List.getElem?_eq_none_iff.1 hx
    rw [List.getElem?_eq_none (by omega)]; rfl
  | some x =>
    have hi : i < A.length := by have := (List.getElem?_eq_some_iff.1 hx).1; omega
    have hA : A[i]? = some A[i] := List.getElem?_eq_getElem hi
    rw [hA]
    simp only [Option.map_some]
    cases hv : A[i] with
    | true =>
      rw [hv] at hA
      rw [inR_iff.2 (snd i x hA hx)]
    | false =>
      cases hr : inR l roots x.print with
      | false => rfl
      | true =>
        have := cpl i x hx (inR_iff.1 hr)
        rw [hA, hv] at this; cases this
theorem cpl_of {l : List Pc} {roots : List Int} {A : List Bool} (hs : storeOk l = true) (hr : ∀ y ∈ roots, hasP l y = true → OnA A l y)
    (hc : ∀ (i : Nat) (x : Pc), A[i]? = some true → l[i]? = some x → ∀ y ∈ prs x, hasP l y = true → OnA A l y) : ∀ (i : Nat) (x : Pc), l[i]? = some x → Rch l roots x.print → A[i]? = some true := by
  intro i x hx hR
  have : OnA A l x.print := hR (OnA A l) ⟨hr, fun z hz hS y hy hp => by
    obtain ⟨j, z', h1, h2, h3⟩ := hS
    obtain ⟨k, hk, e⟩ := List.getElem_of_mem hz
    have hzk : l[k]? = some z := by rw [List.getElem?_eq_getElem hk, e]
    obtain rfl := print_one hs h2 hzk h3
    rw [h2] at hzk
    obtain rfl := Option.some.inj hzk
    exact hc j z' h1 h2 y hy hp⟩
  obtain ⟨j, z, h1, h2, h3⟩ := this
  obtain rfl := print_one hs h2 hx h3
  exact h1

/-! ### The program's way: a heap of pieces to look at -/
/-! ### The reference's way: rounds -/
structure RInv (l : List Pc) (roots : List Int) (A : List Bool) : Prop where
  len : A.length = l.length
  snd : ∀ (i : Nat) (x : Pc), A[i]? = some true → l[i]? = some x → Rch l roots x.print
  rts : ∀ y ∈ roots, hasP l y = true → OnA A l y
def Cpl (l : List Pc) (roots : List Int) (A : List Bool) : Prop := ∀ (i : Nat) (x : Pc), l[i]? = some x → Rch l roots x.print → A[i]? = some true
/-- What was marked stays marked. -/
def Up (A B : List Bool) : Prop := A.length = B.length ∧ ∀ i : Nat, A[i]? = some true → B[i]? = some true
theorem Up.rfl' (A : List Bool) : Up A A := ⟨rfl, fun _ h => h⟩
theorem Up.trans {A B C : List Bool} (h : Up A B) (k : Up B C) : Up A C := ⟨h.1.trans k.1, fun i hi => k.2 i (h.2 i hi)⟩
theorem Up.on {A B : List Bool} {l : List Pc} {y : Int} (h : Up A B) (k : OnA A l y) : OnA B l y := by
  obtain ⟨i, x, h1, h2⟩ := k
  exact ⟨i, x, h.2 i h1, h2⟩
theorem up_cons {a b : Bool} {A B : List Bool} (h : Up (a :: A) (b :: B)) : (a = true → b = true) ∧ Up A B :=
  ⟨fun e => by have := h.2 0 (by simp [e]); simpa using this, by have := h.1; simpa using this, fun i hi => by have := h.2 (i + 1) (by simpa using hi); simpa using this⟩
theorem up_count : ∀ (A B : List Bool), Up A B → A.count true ≤ B.count true ∧ (A.count true = B.count true → A = B)
  | [], [], _ => ⟨Nat.le_refl _, fun _ => rfl⟩
  | [], b :: B, h => by have := h.1; simp at this
  | a :: A, [], h => by have := h.1; simp at this
  | a :: A, b :: B, h => by
    obtain ⟨h1, h2⟩ := up_cons h
    obtain ⟨h3, h4⟩ := up_count A B h2
    rw [List.count_cons, List.count_cons]
    cases a <;> cases b <;> simp at h1 ⊢ <;> first | exact ⟨h3, h4⟩ | (constructor <;> omega)
theorem round_gain {l : List Pc} {roots : List Int} {A B : List Bool} {r : Nat} (hs : storeOk l = true) (hA : RInv l roots A) (hB : RInv l roots B) (hup : Up A B)
    (hsucc : ∀ (i : Nat) (x : Pc), A[i]? = some true → l[i]? = some x → ∀ y ∈ prs x, hasP l y = true → OnA B l y) (h : Cpl l roots A ∨ r ≤ A.count true) : Cpl l roots B ∨ r + 1 ≤ B.count true := by
  rcases h with h | h
  · exact .inl fun i x hx hR => hup.2 i (h i x hx hR)
  · by_cases hr : r + 1 ≤ B.count true
    · exact .inr hr
    · obtain ⟨h1, h2⟩ := up_count A B hup
      obtain rfl := h2 (by omega)
      exact .inl (cpl_of hs hA.rts hsucc)
theorem round_end {l : List Pc} {roots : List Int} {A : List Bool} (hs : storeOk l = true) (hA : RInv l roots A) (h : Cpl l roots A ∨ l.length ≤ A.count true) : A = reachB l roots := by
  refine marks_all hs hA.len hA.snd ?_
  rcases h with h | h
  · exact h
  · have hall : ∀ b ∈ A, b = true := by
      have : A.count true = A.length := by have := List.count_le_length (a := true) (l := A); have := hA.len; omega
      exact fun b hb => ((List.count_eq_length.1 this) b hb).symm
    intro i x hx _
    have hi : i < A.length := by have := (List.getElem?_eq_some_iff.1 hx).1; rw [hA.len]; exact this
    rw [List.getElem?_eq_getElem hi, hall _ (List.getElem_mem hi)]
/-- All pieces with a print are marked. -/
def markY (l : List Pc) (y : Int) (A : List Bool) : List Bool := List.zipWith (fun b (p : Pc) => b || decide (p.print = y)) A l
theorem markY_len {l : List Pc} {y : Int} {A : List Bool} (h : A.length = l.length) : (markY l y A).length = l.length := by simp [markY, h]
theorem markY_get {l : List Pc} {y : Int} {A : List Bool} {i : Nat} {b : Bool} {x : Pc} (hA : A[i]? = some b) (hx : l[i]? = some x) : (markY l y A)[i]? = some (b || decide (x.print = y)) := by
  unfold markY
  rw [List.getElem?_zipWith, hA, hx]
theorem markY_up {l : List Pc} {y : Int} {A : List Bool} (h : A.length = l.length) : Up A (markY l y A) := by
  refine ⟨by rw [markY_len h, h], fun i hi => ?_⟩
  have hi2 := (List.getElem?_eq_some_iff.1 hi).1
  have hx : l[i]? = some (l[i]'(by omega)) := List.getElem?_eq_getElem _
  rw [markY_get hi hx]; rfl
theorem markY_on {l : List Pc} {y : Int} {A : List Bool} (h : A.length = l.length) (hs : storeOk l = true) (hp : hasP l y = true) : OnA (markY l y A) l y := by
  obtain ⟨x, hx, hxy⟩ := has_spot hs hp
  have hi : findAt l y < A.length := by have := (List.getElem?_eq_some_iff.1 hx).1; omega
  exact ⟨_, x, by rw [markY_get (List.getElem?_eq_getElem hi) hx, hxy]; simp, hx, hxy⟩
theorem markY_inv {l : List Pc} {roots : List Int} {y : Int} {A : List Bool} (h : RInv l roots A) (hy : hasP l y = true → Rch l roots y) : RInv l roots (markY l y A) := by
  refine ⟨markY_len h.len, ?_, fun z hz hp => (markY_up h.len).on (h.rts z hz hp)⟩
  intro i x hi hx
  have hiA : i < A.length := by have := (List.getElem?_eq_some_iff.1 hx).1; rw [h.len]; exact this
  rw [markY_get (List.getElem?_eq_getElem hiA) hx] at hi
  cases hb : A[i] with
  | true => exact h.snd i x (by rw [List.getElem?_eq_getElem hiA, hb]) hx
  | false =>
    rw [hb] at hi
    have hxy : x.print = y := by simpa using hi
    rw [hxy]
    exact hy (by rw [← hxy]; exact has_mem (List.mem_of_getElem? hx))

/-! ### The prints -/
theorem reach_succ {l : List Pc} {f : Pc → Bool} {k : Nat} {x : Pc} (h : l[k]? = some x) : ((l.take (k + 1)).filter f).map (·.print) = ((l.take k).filter f).map (·.print) ++ (if f x then [x.print] else []) := by
  rw [take_snoc' h, List.filter_append, List.map_append]
  cases hf : f x <;> simp [hf]
theorem reachOf_off {l : List Pc} {roots : List Int} (h : storeOk l = false) : reachOf l roots = [] := by unfold reachOf; rw [h]; rfl
theorem reachOf_on {l : List Pc} {roots : List Int} (h : storeOk l = true) : reachOf l roots = (l.filter fun p => inR l roots p.print).map (·.print) := by unfold reachOf; rw [h]; rfl
theorem reachOf_len {l : List Pc} {roots : List Int} : (reachOf l roots).length ≤ 40 := by
  cases h : storeOk l
  · rw [reachOf_off h]; simp
  · rw [reachOf_on h, List.length_map]
    exact Nat.le_trans (List.length_filter_le _ _) (st_in h).1

end Go.Proofs.YtachfmlfmpaddaaGreatDoor
