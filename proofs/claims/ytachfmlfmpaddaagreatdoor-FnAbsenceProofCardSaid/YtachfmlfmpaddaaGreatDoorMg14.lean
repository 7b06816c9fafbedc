/- Walks and plain facts, joined: SplP, ReadF, MapP. -/
import Derived.Test.YtachfmlfmpaddaaGreatDoorMg13
import Derived.Lib.Split
import Derived.Lib.IndexBytes
import Derived.Lib.Join
set_option linter.unusedVariables false
set_option linter.unusedSimpArgs false

/- Paths' words, in plain Lean: what Go's library splits and joins. No program in sight. -/
namespace Go.Proofs.YtachfmlfmpaddaaGreatDoor
open Go.RowKit

theorem spl_none {k : Nat} {l : List UInt8} (h : (47 : UInt8) ∉ l) : Go.Lib.splitK [47] 0 k l = [l] := by
  cases k with
  | zero => rfl
  | succ k =>
    unfold Go.Lib.splitK
    rw [Go.Lib.index_one, idx_none h]; rfl
theorem spl_some {k : Nat} {a r : List UInt8} (h : (47 : UInt8) ∉ a) : Go.Lib.splitK [47] 0 (k + 1) (a ++ 47 :: r) = a :: Go.Lib.splitK [47] 0 k r := by
  have h0 : ¬ ((a.length : Int) == -1) = true := by
    intro e
    have := beq_iff_eq.1 e
    omega
  rw [Go.Lib.splitK, Go.Lib.index_one, idx_some h, if_neg h0]
  simp
theorem word_slash {x : List UInt8} (h : wordOk x = true) : (47 : UInt8) ∉ x := by
  intro hm
  simp only [wordOk, Bool.and_eq_true, decide_eq_true_eq] at h
  have := List.all_eq_true.1 h.2 47 hm
  simp [wordCh, isSm, isDig, inB] at this
theorem spl_words : ∀ (r : List (List UInt8)) (w : List UInt8) (k : Nat), r.length ≤ k → (∀ x ∈ w :: r, (47 : UInt8) ∉ x) → Go.Lib.splitK [47] 0 k (w ++ r.flatMap (fun x => 47 :: x)) = w :: r
  | [], w, k, _, h => by simp; exact spl_none (h w (by simp))
  | y :: r, w, 0, hk, _ => by simp at hk
  | y :: r, w, k + 1, hk, h => by
    rw [List.flatMap_cons, List.cons_append, spl_some (h w (by simp)), spl_words r y k (by simpa using hk) (fun x hx => h x (by simp [hx]))]
theorem spl_nil (k : Nat) (l : List UInt8) : Go.Lib.splitK [47] 0 k l ≠ [] := by
  cases k with
  | zero => simp [Go.Lib.splitK]
  | succ k => unfold Go.Lib.splitK; split <;> simp
theorem step_word : ∀ (x : List UInt8) (acc : List (List UInt8)) (y : List UInt8), (47 : UInt8) ∉ x → x.foldl splitStep (acc ++ [y]) = acc ++ [y ++ x]
  | [], acc, y, _ => by simp
  | c :: r, acc, y, h => by
    have hc : c ≠ 47 := fun e => h (by simp [e])
    have hs : splitStep (acc ++ [y]) c = acc ++ [y ++ [c]] := by
      unfold splitStep
      rw [if_neg hc, if_neg (by simp)]
      simp
    rw [List.foldl_cons, hs, step_word r acc (y ++ [c]) (fun e => h (by simp [e]))]
    simp
theorem step_words : ∀ (ws acc : List (List UInt8)), (∀ x ∈ ws, (47 : UInt8) ∉ x) → (ws.flatMap (fun x => 47 :: x)).foldl splitStep acc = acc ++ ws
  | [], acc, _ => by simp
  | x :: r, acc, h => by
    rw [List.flatMap_cons, List.foldl_append, List.foldl_cons]
    have hs : splitStep acc 47 = acc ++ [[]] := by unfold splitStep; rw [if_pos rfl]
    rw [hs, step_word x acc [] (h x (by simp)), List.nil_append, step_words r (acc ++ [x]) (fun y hy => h y (by simp [hy]))]
    simp
theorem splitP_words {ws : List (List UInt8)} (h : ∀ x ∈ ws, wordOk x = true) : splitP (ws.flatMap (fun x => 47 :: x)) = ws := by
  unfold splitP
  rw [step_words ws [] (fun x hx => word_slash (h x hx))]; rfl
theorem joinP_on {ws : List (List UInt8)} (h0 : ws ≠ []) (h3 : ws.length ≤ 3) (h : ∀ x ∈ ws, wordOk x = true) : joinP ws = ws.flatMap (fun x => 47 :: x) := by
  unfold joinP; rw [if_neg h0, if_pos ⟨h3, List.all_eq_true.2 h⟩]
theorem joinP_off {ws : List (List UInt8)} (h0 : ws ≠ []) (h : ¬ (ws.length ≤ 3 ∧ ∀ x ∈ ws, wordOk x = true)) : joinP ws = [] := by
  unfold joinP; rw [if_neg h0, if_neg (fun e => h ⟨e.1, List.all_eq_true.1 e.2⟩)]
theorem word_len {x : List UInt8} (h : wordOk x = true) : 1 ≤ x.length ∧ x.length ≤ 8 := by
  simp only [wordOk, Bool.and_eq_true, decide_eq_true_eq] at h
  omega
/-- A joined path's words are these words. -/
theorem parts_join {ws : List (List UInt8)} (h3 : ws.length ≤ 3) (h : ∀ x ∈ ws, wordOk x = true) : pathParts (joinP ws) = some ws := by
  by_cases h0 : ws = []
  · subst h0; rfl
  · have hj := joinP_on h0 h3 h
    have hs := splitP_words h
    unfold pathParts
    rw [hj, hs, hj]
    have hne : ws.flatMap (fun x => 47 :: x) ≠ [47] := by
      cases ws with
      | nil => exact absurd rfl h0
      | cons x r =>
        have := (word_len (h x (by simp))).1
        intro e
        have h2 := congrArg List.length e
        rw [List.flatMap_cons, List.cons_append, List.length_cons, List.length_append] at h2
        simp only [List.length_cons, List.length_nil] at h2
        omega
    have hne0 : ws.flatMap (fun x => 47 :: x) ≠ [] := by
      cases ws with
      | nil => exact absurd rfl h0
      | cons x r => simp
    rw [if_neg hne, if_pos ⟨hne0, rfl⟩]
/-- The program's reading of a path. -/
theorem parts_cut {l r : List UInt8} (hl : l = 47 :: r) (h1 : l ≠ [47]) : pathParts l = if joinP (Go.Lib.splitK [47] 0 3 r) = l then some (Go.Lib.splitK [47] 0 3 r) else none := by
  split
  · rename_i hj
    have hn := spl_nil 3 r
    by_cases hok : (Go.Lib.splitK [47] 0 3 r).length ≤ 3 ∧ ∀ x ∈ Go.Lib.splitK [47] 0 3 r, wordOk x = true
    · have := parts_join hok.1 hok.2
      rw [hj] at this
      exact this
    · rw [joinP_off hn hok] at hj
      rw [hl] at hj; cases hj
  · rename_i hj
    cases hp : pathParts l with
    | none => rfl
    | some ws =>
      exfalso
      obtain ⟨h3, hw, hjw⟩ := pathParts_in hp
      have h0 : ws ≠ [] := by
        rintro rfl
        exact h1 (by rw [← hjw]; rfl)
      rw [joinP_on h0 h3 hw] at hjw
      cases ws with
      | nil => exact absurd rfl h0
      | cons x q =>
        rw [List.flatMap_cons, hl, List.cons_append] at hjw
        have he : x ++ q.flatMap (fun x => 47 :: x) = r := (List.cons.inj hjw).2
        have hsp := spl_words q x 3 (by simp at h3; omega) (fun y hy => word_slash (hw y hy))
        rw [he] at hsp
        rw [hsp, joinP_on h0 h3 hw] at hj
        exact hj (by rw [hl, ← he]; simp)
theorem parts_no {l : List UInt8} (h : ∀ r, l ≠ 47 :: r) : pathParts l = none := by
  cases hp : pathParts l with
  | none => rfl
  | some ws =>
    exfalso
    obtain ⟨h3, hw, hjw⟩ := pathParts_in hp
    by_cases h0 : ws = []
    · subst h0; exact h [] hjw.symm
    · rw [joinP_on h0 h3 hw] at hjw
      cases ws with
      | nil => exact absurd rfl h0
      | cons x q => exact h _ hjw.symm
theorem join_flat : ∀ (x : List UInt8) (r : List (List UInt8)), Go.Lib.join (x :: r) [47] = x ++ r.flatMap (fun y => 47 :: y)
  | x, r => by
    rw [Go.Lib.join_cons]
    unfold Go.Lib.joinTail
    rw [List.flatMap_def]; rfl

end Go.Proofs.YtachfmlfmpaddaaGreatDoor

/- Walks: reading folders, the program's way. -/
namespace Go.Proofs.YtachfmlfmpaddaaGreatDoor
open Go.RowKit

theorem info_ent : (Tryz.prog.info? 81).map (fun i => (i.zero, i.size, i.bytes)) = some (some (.agg #[.string ByteArray.empty, .int .i64 0]), 2, 24) := by kernel_rfl
theorem push_ent {ops : Array Oper} {rest : List Oper} {o : Oper} {a : Act} {Q : Exit → Act → World → Prop} {w0 wr : World} (hgd : o.guard = none) (s x : Operand) (ho : o.op = .call { callee := .builtin .append, args := #[s, x], argTypes := #[67, 67] }) (B B0 : Nat) (v : Value) (acc : List Ent) (y : Ent)
    (hown : OwnE wr B v acc) (hb : Below B0 w0 wr) (hB : B ≤ wr.heap.size) (hB0 : B0 ≤ B) (hs : a.eval s = v) (hx : a.eval x = .slice (some ⟨wr.heap.size, 0, none⟩) 1 1) (hn : acc.length < 1099511627775)
    (h : ∀ v' w', OwnE w' B v' (acc ++ [y]) → Below B0 w0 w' → B ≤ w'.heap.size → wr.grownBy w' v.ownBlock ∧ (∀ g, v'.ownBlock = some g → v.ownBlock = some g ∨ wr.heap.size ≤ g) → wpList Tryz.prog ops Q rest (a.put o.dst v') w') :
    wpList Tryz.prog ops Q (o :: rest) a (wr.alloc (.cells #[.string y.name, .int .i64 y.print] 81)) := by
  obtain ⟨i0, hi, hz0, hz1, hz2⟩ := info_parts info_ent
  exact wpList_push (enc := encE) hgd s x 67 ho B B0 81 i0 _ 2 24 Tryz.underlying67 hi hz0 hz1 hz2 rfl (by decide) v acc y hown hb hB hB0 hs hx rfl (by simp [Value.oneCell']) hn (by decide) h

def sizeOfV : Value → Nat
  | .string s => s.size
  | _ => 0
theorem ents_cut {e : Ent} {r : List Ent} {A R2 : List UInt8} (he : entOk e = true) (h : entsText (e :: r) = A ++ 59 :: R2) (hA : 59 ∉ A) : A = bs e.name ++ 61 :: hexT e.print ∧ R2 = entsText r := by
  have h1 : entsText (e :: r) = (bs e.name ++ 61 :: hexT e.print) ++ 59 :: entsText r := by simp [entsText, entText]
  rw [h1] at h
  have h2 : (59 : UInt8) ∉ bs e.name ++ 61 :: hexT e.print := by
    have ha := (entText_cut he).2
    have hw := (entOk_iff.1 he).1
    intro hm
    rcases List.mem_append.1 hm with h | h
    · exact (wordOk_ch hw h).2 rfl
    · rcases List.mem_cons.1 h with h | h
      · cases h
      · exact ha h
  obtain ⟨e1, e2⟩ := cut_at _ _ _ _ _ h2 hA h
  exact ⟨e1.symm, e2.symm⟩
/-- What stands of the entries, if the text is a folder's. -/
def FoldInv (l : List UInt8) (acc : List Ent) (R : List UInt8) : Prop := ∀ es, entsOk es = true → folderText es = l → ∃ todo, es = acc ++ todo ∧ R = entsText todo
theorem inv_start {l R : List UInt8} (h : l = 100 :: R) : FoldInv l [] R := by
  intro es ho ht
  rw [folder_on ho, h] at ht
  exact ⟨es, rfl, by simpa using ht.symm⟩
theorem inv_no59 {l R : List UInt8} {acc : List Ent} (hi : FoldInv l acc R) (hR : R ≠ []) (h : 59 ∉ R) : readFolder l = none := by
  refine readFolder_no (fun es ho ht => ?_)
  obtain ⟨todo, he, hr⟩ := hi es ho ht
  cases todo with
  | nil => exact hR hr
  | cons e r => exact h (by rw [hr]; simp [entsText, entText])
theorem inv_no61 {l R A R2 : List UInt8} {acc : List Ent} (hi : FoldInv l acc R) (h : R = A ++ 59 :: R2) (hA : 59 ∉ A) (h61 : 61 ∉ A) : readFolder l = none := by
  refine readFolder_no (fun es ho ht => ?_)
  obtain ⟨todo, he, hr⟩ := hi es ho ht
  cases todo with
  | nil => rw [hr] at h; simp [entsText] at h
  | cons e r =>
    have hoe := ents_all ho (e := e) (by rw [he]; simp)
    obtain ⟨e1, _⟩ := ents_cut hoe (hr.symm.trans h) hA
    exact h61 (by rw [e1]; simp)
theorem inv_four {l R : List UInt8} {acc : List Ent} (hi : FoldInv l acc R) (hR : R ≠ []) (h3 : acc.length = 3) : readFolder l = none := by
  refine readFolder_no (fun es ho ht => ?_)
  obtain ⟨todo, he, hr⟩ := hi es ho ht
  cases todo with
  | nil => exact hR hr
  | cons e r =>
    have := (ents_in ho).1
    rw [he] at this
    simp at this
    omega
theorem inv_step {l R N H R2 : List UInt8} {acc : List Ent} (hi : FoldInv l acc R) (h : R = (N ++ 61 :: H) ++ 59 :: R2) (hA : 59 ∉ N ++ 61 :: H) (hN : 61 ∉ N) : FoldInv l (acc ++ [⟨strL N, readHex H⟩]) R2 := by
  intro es ho ht
  obtain ⟨todo, he, hr⟩ := hi es ho ht
  cases todo with
  | nil => rw [hr] at h; simp [entsText] at h
  | cons e r =>
    have hoe := ents_all ho (e := e) (by rw [he]; simp)
    obtain ⟨e1, e2⟩ := ents_cut hoe (hr.symm.trans h) hA
    obtain ⟨e3, e4⟩ := cut_at _ _ _ _ _ hN (entText_cut hoe).1 e1
    refine ⟨r, ?_, e2⟩
    rw [he, List.append_assoc]
    congr 1
    rw [e3, e4, strL_bs, readHex_T (entOk_iff.1 hoe).2]
    rfl
theorem inv_end {l : List UInt8} {acc : List Ent} (hi : FoldInv l acc []) (h : folderText acc ≠ l) : readFolder l = none := by
  refine readFolder_no (fun es ho ht => ?_)
  obtain ⟨todo, he, hr⟩ := hi es ho ht
  cases todo with
  | nil => rw [List.append_nil] at he; subst he; exact h ht
  | cons e r => simp [entsText, entText] at hr
theorem inv_yes {l : List UInt8} {acc : List Ent} (h : folderText acc = l) (hl : l ≠ []) : readFolder l = some acc := by
  refine readFolder_yes ?_ h
  cases ho : entsOk acc
  · exact absurd (by rw [← h, folder_off ho]) hl
  · rfl
theorem entsOf_none {l : List UInt8} (h : readFolder l = none) : entsOf l = [] ∧ (readFolder l).isSome = false := by unfold entsOf; rw [h]; exact ⟨rfl, rfl⟩
theorem entsOf_some {l : List UInt8} {es : List Ent} (h : readFolder l = some es) : entsOf l = es ∧ (readFolder l).isSome = true := by unfold entsOf; rw [h]; exact ⟨rfl, rfl⟩

set_option maxHeartbeats 2000000 in
set_option maxRecDepth 100000 in
theorem impl_ReadFolder_c (s : ByteArray) (w : World) (hs : s.size ≤ 1048576) (hg : Glob w) :
    Calls Tryz.prog 67 #[.string s] w fun e w' => ∃ v', e = .returned (.tuple #[v', .bool (readFolder (bs s)).isSome]) ∧ OwnE w' w.heap.size v' (entsOf (bs s)) ∧ Below w.heap.size w w' := by
  by_cases hpre : ∃ R, bs s = 100 :: R
  · obtain ⟨R0, hR0⟩ := hpre
    have HG := hid hg
    have hne := hid (show bs s ≠ [] by rw [hR0]; simp)
    have hsz := bs_lenH s
    rw [hR0] at hsz
    simp only [List.length_cons] at hsz
    have HI0 := hid (inv_start hR0)
    have HR0 := hid hR0
    clear hR0 hg
    go_enter Tryz.func67, Tryz.ntmps67
    go_wp2_with fail
    refine (CutPrefix_yes_c s 100 R0 _ HR0.out hs).mono ?_
    rintro e w' ⟨rfl, rfl⟩
    go_wp2
    go_loopw [4, 6] (fun rv lv wr => ∃ (R : List UInt8) (acc : List Ent), rv = .string (strL R) ∧ R.length ≤ 1048576 ∧ acc.length ≤ 3 ∧ OwnE wr w.heap.size lv acc ∧ Hid (FoldInv (bs s) acc R) ∧ Below w.heap.size w wr) (fun rv _ _ => sizeOfV rv)
    case atStart => exact ⟨R0, [], rfl, by omega, by simp, Own.nil_, HI0, Below.refl _ _⟩
    case round =>
      obtain ⟨R, acc, rfl, hRl, hacc, hown, hinv, hb⟩ := hrel
      have hrs := strL_size R
      by_cases hR : R = []
      · subst hR
        have hem : (strL []).toList.isEmpty = true := by rw [ByteArray.toList_eq]; rfl
        have hbq := str_beq s (folderText acc)
        by_cases he : folderText acc = bs s
        · have HF := hid (entsOf_some (inv_yes he hne.out))
          have hb2 : ((strL (folderText acc)).toList == s.toList) = true := by rw [hbq]; exact decide_eq_true he
          clear hbq he
          go_wp2_with fail
          refine (impl_FolderText_c _ acc _ (Rd.of_own hown) (HG.out.on hb)).mono ?_
          rintro e w1 ⟨rfl, b1⟩
          have hown1 := hown.on b1
          have hb1 := bl_then hb b1
          go_wp2
          go_ret2
          exact ⟨_, by rw [HF.out.2]; rfl, by rw [HF.out.1]; exact hown1, hb1⟩
        · have HF := hid (entsOf_none (inv_end hinv.out he))
          have hb2 : ((strL (folderText acc)).toList == s.toList) = false := by rw [hbq]; exact decide_eq_false he
          clear hbq he
          go_wp2_with fail
          refine (impl_FolderText_c _ acc _ (Rd.of_own hown) (HG.out.on hb)).mono ?_
          rintro e w1 ⟨rfl, b1⟩
          have hb1 := bl_then hb b1
          go_wp2
          go_ret2
          exact ⟨_, by rw [HF.out.2]; rfl, by rw [HF.out.1]; exact Own.nil_, hb1⟩
      · have hem : (strL R).toList.isEmpty = false := by
          rw [ByteArray.toList_eq]
          cases R with
          | nil => exact absurd rfl hR
          | cons x r => rfl
        rcases cut_ways 59 R with h59 | ⟨A, R2, hA, h59⟩
        · have HF := hid (entsOf_none (inv_no59 hinv.out hR h59))
          have H59 := hid h59
          clear h59 hR
          go_wp2_with fail
          refine (strings_Cut_no_c (strL R) 59 _ (by rw [bs_strL]; exact H59.out)).mono ?_
          rintro e w1 ⟨rfl, q1, rfl⟩
          have hb1 := bl_drewN hb q1
          rcases cut_ways 61 R with h61 | ⟨N, R3, hN, h61⟩
          · go_wp2_with fail
            refine (strings_Cut_no_c (strL R) 61 _ (by rw [bs_strL]; exact h61)).mono ?_
            rintro e w1 ⟨rfl, q2, rfl⟩
            go_wp2
            go_ret2
            exact ⟨_, by rw [HF.out.2]; rfl, by rw [HF.out.1]; exact Own.nil_, bl_drewN hb _⟩
          · have HN := hid hN
            clear hN
            go_wp2_with fail
            refine (strings_Cut_yes_c (strL R) 61 N R3 _ (by rw [bs_strL]; exact HN.out) h61 (by omega)).mono ?_
            rintro e w1 ⟨rfl, q2, rfl⟩
            go_wp2
            go_ret2
            exact ⟨_, by rw [HF.out.2]; rfl, by rw [HF.out.1]; exact Own.nil_, bl_drewN hb _⟩
        · have hl := congrArg List.length hA
          simp only [List.length_append, List.length_cons] at hl
          have HA := hid hA
          have H59 := hid h59
          have hasz := strL_size A
          clear hA h59
          rcases cut_ways 61 A with h61 | ⟨N, H, hN, h61⟩
          · have HF := hid (entsOf_none (inv_no61 hinv.out HA.out H59.out h61))
            have H61 := hid h61
            clear h61 hR
            go_wp2_with fail
            refine (strings_Cut_yes_c (strL R) 59 A R2 _ (by rw [bs_strL]; exact HA.out) H59.out (by omega)).mono ?_
            rintro e w1 ⟨rfl, q1, rfl⟩
            have hb1 := bl_drewN hb q1
            go_wp2_with fail
            refine (strings_Cut_no_c (strL A) 61 _ (by rw [bs_strL]; exact H61.out)).mono ?_
            rintro e w1 ⟨rfl, q2, rfl⟩
            go_wp2
            go_ret2
            exact ⟨_, by rw [HF.out.2]; rfl, by rw [HF.out.1]; exact Own.nil_, bl_drewN hb _⟩
          · have HN := hid hN
            have H61 := hid h61
            have HNE := hid hR
            clear hN h61 hR
            obtain ⟨al, hal⟩ : ∃ al, acc.length = al := ⟨_, rfl⟩
            obtain ⟨la, lc, rfl, hlc, _⟩ : ∃ la lc, _ = Value.slice la al lc ∧ al ≤ lc ∧ True := by
              obtain ⟨a1, c1, e1, h1, _⟩ := (Rd.of_own hown).ents hal
              exact ⟨a1, c1, e1, h1, trivial⟩
            have hb1 := bl_drewN hb
            go_wp2_with fail
            refine (strings_Cut_yes_c (strL R) 59 A R2 _ (by rw [bs_strL]; exact HA.out) H59.out (by omega)).mono ?_
            rintro e w1 ⟨rfl, q1, rfl⟩
            go_wp2_with fail
            refine (strings_Cut_yes_c (strL A) 61 N H _ (by rw [bs_strL]; exact HN.out) H61.out (by omega)).mono ?_
            rintro e w1 ⟨rfl, q2, rfl⟩
            have hb2 := bl_drewN (bl_drewN hb q1) q2
            have hown2 := (hown.drewN q1).drewN q2
            by_cases h3 : al = 3
            · have HF := hid (entsOf_none (inv_four hinv.out HNE.out (hal.trans h3)))
              have h3b : ((al : Int) == 3) = true := by rw [h3]; rfl
              clear h3
              go_wp2
              go_ret2
              exact ⟨_, by rw [HF.out.2]; rfl, by rw [HF.out.1]; exact Own.nil_, bl_drewN hb _⟩
            · have h3b : ((al : Int) == 3) = false := by simp; omega
              have HI := hid (inv_step hinv.out (by rw [← HN.out]; exact HA.out) (by rw [← HN.out]; exact H59.out) H61.out)
              have HAL := hid (show acc.length < 3 by omega)
              obtain ⟨W2, hW2⟩ : ∃ W2, W2 = (wr.drewN q1).drewN q2 := ⟨_, rfl⟩
              rw [← hW2] at hb2 hown2 ⊢
              clear hW2 hal h3
              go_wp2_with fail
              refine (impl_ReadHex_c (strL H) _ (HG.out.on hb2)).mono ?_
              rw [bs_strL]
              rintro e w4 ⟨rfl, b4⟩
              have hown4 := hown2.on b4
              have hb4 := bl_then hb2 b4
              have hB4 := hb4.size
              have hr2 := strL_size R2
              go_wp2_with (at_builtin; refine push_ent (w0 := w) rfl _ _ rfl w.heap.size w.heap.size _ acc ⟨strL N, readHex H⟩ hown4 hb4 hB4 (Nat.le_refl _) rfl rfl (by have := HAL.out; omega) ?_; intro v' w' hown' hb' hB' _)
              go_roundw
              case rel => exact ⟨R2, _, rfl, by omega, by have := HAL.out; simp; omega, hown', HI, hb'⟩
              case measure => simp only [sizeOfV]; omega
  · have HF := hid (entsOf_none (readFolder_no (l := bs s) (fun es ho ht => hpre ⟨entsText es, by rw [← ht, folder_on ho]⟩)))
    have HP := hid (show ∀ r, bs s ≠ 100 :: r from fun r e => hpre ⟨r, e⟩)
    clear hpre
    go_enter Tryz.func67, Tryz.ntmps67
    go_wp2_with fail
    refine (CutPrefix_no_c s 100 _ HP.out hs).mono ?_
    rintro e w' ⟨rfl, rfl⟩
    go_wp2
    go_ret2
    exact ⟨_, by rw [HF.out.2]; rfl, by rw [HF.out.1]; exact Own.nil_, Below.refl _ _⟩

end Go.Proofs.YtachfmlfmpaddaaGreatDoor

/- Stores of pieces as maps from prints to texts; texts put in a row. No program in sight. -/
namespace Go.Proofs.YtachfmlfmpaddaaGreatDoor
open Go.RowKit

theorem asc_ext : ∀ (a b : List Pc), a.Pairwise (fun x y => x.print < y.print) → b.Pairwise (fun x y => x.print < y.print) → (∀ x, x ∈ a ↔ x ∈ b) → a = b
  | [], [], _, _, _ => rfl
  | [], q :: u, _, _, h => by have := (h q).2 (by simp); simp at this
  | p :: r, [], _, _, h => by have := (h p).1 (by simp); simp at this
  | p :: r, q :: u, ha, hb, h => by
    obtain ⟨a1, a2⟩ := List.pairwise_cons.1 ha
    obtain ⟨b1, b2⟩ := List.pairwise_cons.1 hb
    have e : p = q := by
      rcases List.mem_cons.1 ((h p).1 (by simp)) with e | e
      · exact e
      · rcases List.mem_cons.1 ((h q).2 (by simp)) with e' | e'
        · exact e'.symm
        · have := b1 p e; have := a1 q e'; omega
    subst e
    rw [asc_ext r u a2 b2 (fun x => ⟨fun hx => by
      rcases List.mem_cons.1 ((h x).1 (List.mem_cons_of_mem _ hx)) with e | e
      · subst e; have := a1 x hx; omega
      · exact e, fun hx => by
      rcases List.mem_cons.1 ((h x).2 (List.mem_cons_of_mem _ hx)) with e | e
      · subst e; have := b1 x hx; omega
      · exact e⟩)]
theorem asc_len : ∀ (a b : List Pc), a.Pairwise (fun x y => x.print < y.print) → b.Pairwise (fun x y => x.print < y.print) → (∀ x, x ∈ a → x ∈ b) → a.length ≤ b.length
  | [], b, _, _, _ => by simp
  | p :: r, [], _, _, h => by have := h p (by simp); simp at this
  | p :: r, q :: u, ha, hb, h => by
    obtain ⟨a1, a2⟩ := List.pairwise_cons.1 ha
    obtain ⟨b1, b2⟩ := List.pairwise_cons.1 hb
    by_cases e : p = q
    · subst e
      have := asc_len r u a2 b2 (fun x hx => by
        rcases List.mem_cons.1 (h x (List.mem_cons_of_mem _ hx)) with e | e
        · subst e; have := a1 x hx; omega
        · exact e)
      simp; omega
    · have hp : p ∈ u := by
        rcases List.mem_cons.1 (h p (by simp)) with e' | e'
        · exact absurd e' e
        · exact e'
      have hq := b1 p hp
      have := asc_len (p :: r) u ha b2 (fun x hx => by
        rcases List.mem_cons.1 (h x hx) with e' | e'
        · exfalso
          subst e'
          rcases List.mem_cons.1 hx with e2 | e2
          · exact e e2.symm
          · have := a1 x e2; omega
        · exact e')
      simp at this ⊢; omega
theorem getP_iff {l : List Pc} (h : storeOk l = true) {n : Int} {t : ByteArray} : getP l n = some t ↔ (⟨n, t⟩ : Pc) ∈ l := by
  constructor
  · intro hg
    obtain ⟨k, x, h1, rfl, rfl⟩ := getP_ex hg
    exact List.mem_of_getElem? h1
  · intro hm
    obtain ⟨j, hj, e⟩ := List.getElem_of_mem hm
    have hg : l[j]? = some ⟨n, t⟩ := by rw [List.getElem?_eq_getElem hj, e]
    exact getP_at hg (fun i y hi hy he => by have := asc_get (st_asc h) hy hg hi; omega)
theorem store_ext {a b : List Pc} (ha : storeOk a = true) (hb : storeOk b = true) (h : ∀ n t, getP a n = some t ↔ getP b n = some t) : a = b := by
  refine asc_ext a b (st_asc ha) (st_asc hb) (fun x => ?_)
  have := h x.print x.text
  rwa [getP_iff ha, getP_iff hb] at this

/-- All that is in the one is in the other. -/
def Le (s x : List Pc) : Prop := ∀ (n : Int) (t : ByteArray), getP s n = some t → getP x n = some t
theorem Le.rfl' (s : List Pc) : Le s s := fun _ _ h => h
theorem Le.trans {a b c : List Pc} (h : Le a b) (k : Le b c) : Le a c := fun n t hn => k n t (h n t hn)
theorem Le.len {a b : List Pc} (ha : storeOk a = true) (hb : storeOk b = true) (h : Le a b) : a.length ≤ b.length :=
  asc_len a b (st_asc ha) (st_asc hb) (fun x hx => (getP_iff hb).1 (h _ _ ((getP_iff ha).2 hx)))
theorem insP_get {s : List Pc} {t : ByteArray} (hs : storeOk s = true) (ht : textOk (bs t) = true) (hn : getP s (printOf (bs t)) = none) (hl : s.length < 40) :
    storeOk (insP s (printOf (bs t)) t) = true ∧ ∀ n u, getP (insP s (printOf (bs t)) t) n = some u ↔ (getP s n = some u ∨ (n = printOf (bs t) ∧ u = t)) := by
  have ho : storeOk (insP s (printOf (bs t)) t) = true := by
    have := put_ok (t := t) hs
    rw [put_new hs ht hn (by omega)] at this
    exact this
  refine ⟨ho, fun n u => ?_⟩
  rw [getP_iff ho, insP_mem, ← getP_iff hs, Pc.mk.injEq]

/-- A text is put. -/
theorem put_get {s : List Pc} {t : ByteArray} (hs : storeOk s = true) (h : (putS s t).2.2 = true) :
    storeOk (putS s t).1 = true ∧ textOk (bs t) = true ∧ (putS s t).2.1 = printOf (bs t) ∧ ∀ n u, getP (putS s t).1 n = some u ↔ (getP s n = some u ∨ (n = printOf (bs t) ∧ u = t)) := by
  rcases put_cases (t := t) hs with e | ⟨ht, hg, e⟩ | ⟨ht, hg, hl, e⟩
  · rw [e] at h; cases h
  · rw [e]
    refine ⟨hs, ht, rfl, fun n u => ⟨.inl, ?_⟩⟩
    rintro (h1 | ⟨rfl, rfl⟩)
    · exact h1
    · exact hg
  · rw [e]
    have := insP_get hs ht hg hl
    exact ⟨this.1, ht, rfl, this.2⟩
theorem put_can {s s' : List Pc} {t : ByteArray} (hs : storeOk s = true) (hs' : storeOk s' = true) (ht : textOk (bs t) = true) (hle : Le s s') (hin : getP s' (printOf (bs t)) = some t) : (putS s t).2.2 = true := by
  cases hg : getP s (printOf (bs t)) with
  | some u =>
    have := hle _ _ hg
    rw [hin] at this
    obtain rfl := Option.some.inj this
    rw [put_there hs ht hg]
  | none =>
    have h40 := (st_in hs').1
    have hl : s.length + 1 ≤ s'.length := by
      rw [← insP_len s (printOf (bs t)) t]
      refine asc_len _ _ (insP_asc (st_asc hs) hg) (st_asc hs') (fun x hx => ?_)
      rcases insP_mem.1 hx with h1 | rfl
      · exact (getP_iff hs').1 (hle _ _ ((getP_iff hs).2 h1))
      · exact (getP_iff hs').1 hin
    rw [put_new hs ht hg (by omega)]

/-- Texts put one behind the other; none if one cannot be. -/
def putAll : List Pc → List ByteArray → Option (List Pc)
  | s, [] => some s
  | s, t :: r => if (putS s t).2.2 then putAll (putS s t).1 r else none
theorem putAll_iff : ∀ (T : List ByteArray) {s s' : List Pc}, storeOk s = true → (putAll s T = some s' ↔ (storeOk s' = true ∧ (∀ t ∈ T, textOk (bs t) = true) ∧ ∀ n u, getP s' n = some u ↔ (getP s n = some u ∨ ∃ t ∈ T, n = printOf (bs t) ∧ u = t)))
  | [], s, s', hs => by
    simp only [putAll, Option.some.injEq]
    constructor
    · rintro rfl; exact ⟨hs, by simp, by simp⟩
    · rintro ⟨h1, _, h3⟩
      exact store_ext hs h1 (fun n u => by rw [h3]; simp)
  | t :: r, s, s', hs => by
    simp only [putAll]
    constructor
    · intro h
      split at h
      · rename_i hp
        obtain ⟨h1, h2, _, h4⟩ := put_get hs hp
        obtain ⟨k1, k2, k3⟩ := (putAll_iff r h1).1 h
        refine ⟨k1, fun x hx => ?_, fun n u => ?_⟩
        · rcases List.mem_cons.1 hx with rfl | hx
          · exact h2
          · exact k2 x hx
        · rw [k3, h4]
          constructor
          · rintro ((h5 | h5) | ⟨x, hx, h5⟩)
            · exact .inl h5
            · exact .inr ⟨t, by simp, h5⟩
            · exact .inr ⟨x, by simp [hx], h5⟩
          · rintro (h5 | ⟨x, hx, h5⟩)
            · exact .inl (.inl h5)
            · rcases List.mem_cons.1 hx with rfl | hx
              · exact .inl (.inr h5)
              · exact .inr ⟨x, hx, h5⟩
      · cases h
    · rintro ⟨k1, k2, k3⟩
      have hle : Le s s' := fun n u hn => (k3 n u).2 (.inl hn)
      have hp := put_can hs k1 (k2 t (by simp)) hle ((k3 _ _).2 (.inr ⟨t, by simp, rfl, rfl⟩))
      rw [if_pos hp]
      obtain ⟨h1, h2, _, h4⟩ := put_get hs hp
      refine (putAll_iff r h1).2 ⟨k1, fun x hx => k2 x (by simp [hx]), fun n u => ?_⟩
      rw [k3, h4]
      constructor
      · rintro (h5 | ⟨x, hx, h5⟩)
        · exact .inl (.inl h5)
        · rcases List.mem_cons.1 hx with rfl | hx
          · exact .inl (.inr h5)
          · exact .inr ⟨x, hx, h5⟩
      · rintro ((h5 | h5) | ⟨x, hx, h5⟩)
        · exact .inl h5
        · exact .inr ⟨t, by simp, h5⟩
        · exact .inr ⟨x, by simp [hx], h5⟩
theorem putAll_same {s : List Pc} {T T' : List ByteArray} (hs : storeOk s = true) (h : ∀ t, t ∈ T ↔ t ∈ T') : putAll s T = putAll s T' := by
  apply Option.ext
  intro s'
  rw [putAll_iff T hs, putAll_iff T' hs]
  simp only [h]
theorem putAll_append : ∀ (T T' : List ByteArray) (s : List Pc), putAll s (T ++ T') = (putAll s T).bind fun s1 => putAll s1 T'
  | [], T', s => rfl
  | t :: r, T', s => by
    simp only [List.cons_append, putAll]
    split
    · exact putAll_append r T' _
    · rfl
theorem putAll_one (s : List Pc) (t : ByteArray) : putAll s [t] = if (putS s t).2.2 then some (putS s t).1 else none := rfl
theorem putAll_le {T : List ByteArray} {s s' : List Pc} (hs : storeOk s = true) (h : putAll s T = some s') : storeOk s' = true ∧ Le s s' ∧ ∀ t ∈ T, textOk (bs t) = true ∧ getP s' (printOf (bs t)) = some t := by
  obtain ⟨k1, k2, k3⟩ := (putAll_iff T hs).1 h
  exact ⟨k1, fun n u hn => (k3 n u).2 (.inl hn), fun t ht => ⟨k2 t ht, (k3 _ _).2 (.inr ⟨t, ht, rfl, rfl⟩)⟩⟩
/-- What is there already can be put, and nothing is changed. -/
theorem putAll_there {T : List ByteArray} {s : List Pc} (hs : storeOk s = true) (h : ∀ t ∈ T, textOk (bs t) = true ∧ getP s (printOf (bs t)) = some t) : putAll s T = some s := by
  refine (putAll_iff T hs).2 ⟨hs, fun t ht => (h t ht).1, fun n u => ⟨.inl, ?_⟩⟩
  rintro (h1 | ⟨t, ht, rfl, rfl⟩)
  · exact h1
  · exact (h _ ht).2

end Go.Proofs.YtachfmlfmpaddaaGreatDoor
