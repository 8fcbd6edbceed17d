/- The law TreeAll returns true for every input; each argument reads behind the call as it read before. No condition. -/
import Derived.Test.YtpioecahefokmaaGreatTreeAll6
import Derived.Test.YtpioecahefokmaaGreatTreeAll4
import Derived.ProofKit
import Derived.OpenShut
import Derived.ChangeCalls
import Derived.Test.YtpioecahefokmaaGreatRows
import Derived.JoinedCond
set_option linter.unusedSimpArgs false
set_option linter.unusedVariables false
section
namespace Go.AB
open Go

/-- A loop that ends, step by step. -/
inductive Runs {S O : Type} (body : S → Option (S ⊕ O)) : Nat → S → O → Prop
  | stop {m : Nat} {s : S} {o : O} (h : body s = some (.inr o)) : Runs body (m + 1) s o
  | step {m : Nat} {s t : S} {o : O} (h : body s = some (.inl t)) (k : Runs body m t o) : Runs body (m + 1) s o
theorem Runs.iterN {S O : Type} {body : S → Option (S ⊕ O)} {m : Nat} {s : S} {o : O} (h : Runs body m s o) : ∀ n, m ≤ n → iterN body n s = some o := by
  induction h with
  | stop h =>
    intro n hn
    obtain ⟨k, rfl⟩ : ∃ k, n = k + 1 := ⟨n - 1, by omega⟩
    unfold AB.iterN; rw [h]
  | step h _ ih =>
    intro n hn
    obtain ⟨k, rfl⟩ : ∃ k, n = k + 1 := ⟨n - 1, by omega⟩
    unfold AB.iterN; rw [h]
    exact ih k (by omega)
theorem Runs.iter {S O : Type} {body : S → Option (S ⊕ O)} {m : Nat} {s : S} {o : O} (h : Runs body m s o) (hm : m ≤ 18446744073709551616) : iter body s = some o := h.iterN _ hm

theorem few_all (l : List api_Object) (most : Int) (hm : most ≤ 1000) : ∃ b, ref19_Few l most = some b ∧ (b = true → (l.length : Int) ≤ most ∧ ∀ o ∈ l, W 300 o.V) := by
  unfold ref19_Few
  by_cases hl : (l.length : Int) > most
  · rw [if_pos (by simpa using hl)]
    exact ⟨false, rfl, fun h => by cases h⟩
  rw [if_neg (by simpa using hl)]
  have key : ∃ o : Unit ⊕ Bool, iter (fun (k2 : Int) =>
          if decide (k2 < (l.length : Int)) then
            need (0 ≤ k2 ∧ k2 < l.length) <|
            bnd (ref14_Few (ix l k2) 300) fun r4 =>
            if !r4 then
              some (.inr (.inr false))
            else
              some (.inl (w64 (k2 + 1)))
          else
            some (.inr (.inl ()))) 0 = some o ∧ ((o = .inl () ∧ ∀ o ∈ l, W 300 o.V) ∨ o = .inr false) := by
    refine iter_inv (fun k => ∃ j : Nat, k = (j : Int) ∧ j ≤ l.length ∧ ∀ i (h : i < j) (h' : i < l.length), W 300 (l[i]).V) (fun k => ((l.length : Int) - k).toNat) _ ⟨0, rfl, Nat.zero_le _, fun i h => absurd h (Nat.not_lt_zero i)⟩ (by show ((l.length : Int) - 0).toNat < _; omega) ?_
    rintro k ⟨j, rfl, hj, hi⟩
    by_cases hjl : j < l.length
    · obtain ⟨b, h1, h2⟩ := ref14_Few_some (ix l (j : Int)) 300
      rw [if_pos (by simpa using hjl), need_pos ⟨by omega, by omega⟩, h1, bnd_some]
      cases b with
      | false => exact ⟨_, rfl, .inr rfl⟩
      | true =>
        refine ⟨_, rfl, ?_⟩
        show (∃ j' : Nat, w64 ((j : Int) + 1) = (j' : Int) ∧ _) ∧ _
        rw [w64_id (by omega) (by omega)]
        refine ⟨⟨j + 1, by omega, by omega, fun i h h' => ?_⟩, by omega⟩
        rcases Nat.lt_or_ge i j with hij | hij
        · exact hi i hij h'
        · have : i = j := by omega
          subst this
          rw [ix_nat hjl] at h2
          exact h2 rfl
    · rw [if_neg (by simpa using hjl)]
      refine ⟨_, rfl, .inl ⟨rfl, fun o ho => ?_⟩⟩
      obtain ⟨i, h, rfl⟩ := List.getElem_of_mem ho
      exact hi i (by omega) h
  obtain ⟨o, h1, h2⟩ := key
  rw [h1]
  rcases h2 with ⟨rfl, h2⟩ | rfl
  · exact ⟨true, rfl, fun _ => ⟨by omega, h2⟩⟩
  · exact ⟨false, rfl, fun h => by cases h⟩

def getO (d : api_Doc) (n : Int) : api_Object := if (decide (n < 1)) || (decide (n > (d.Objects.length : Int))) then zeroO else ix d.Objects (n - 1)
structure FewD (d : api_Doc) : Prop where
  len : d.Objects.length ≤ 1000
  w : ∀ o ∈ d.Objects, W 300 o.V
theorem FewD.get {d : api_Doc} (h : FewD d) (n : Int) : W 300 (getO d n).V := by
  unfold getO
  split
  · exact ⟨Nat.zero_le _, fun x hx => by cases hx⟩
  · rename_i hc
    simp at hc
    rw [ix_at (by omega)]
    exact h.w _ (List.getElem_mem _)
theorem FewD.small {d : api_Doc} (h : FewD d) (n : Int) : Small (getO d n).V := Small.of_W (h.get n) (by decide)
theorem Get_eq (f : file_File) (n : Int) (h : FewD f.get_) : file_File_Get f n = some (getO f.get_ n, 0, 0) := by
  have hl := h.len
  unfold file_File_Get file_File_is
  rw [bnd_some]
  refine if_not (by simp) ?_
  unfold file_Of_1 getO
  by_cases hc : ((decide (n < 1)) || (decide (n > (f.get_.Objects.length : Int)))) = true
  · rw [if_pos hc, if_pos hc]; rfl
  · rw [if_neg hc, if_neg hc]
    simp at hc
    rw [w64_id (by omega) (by omega), need_pos (by omega)]; rfl

def kPages : Str := Str.mk [80, 97, 103, 101, 115]
def kPage : Str := Str.mk [80, 97, 103, 101]
def kKids : Str := Str.mk [75, 105, 100, 115]
def kCount : Str := Str.mk [67, 111, 117, 110, 116]
def kType : Str := Str.mk [84, 121, 112, 101]
def kCatalog : Str := Str.mk [67, 97, 116, 97, 108, 111, 103]
def pTyped (o : api_Object) (name : Str) : Bool := (!o.Stream && ((pget o.V kType).1.Kind == 5)) && ((pget o.V kType).1.S.b == name.b)
theorem typed_p {o : api_Object} (h : Small o.V) (name : Str) : tree_typed o name = some (pTyped o name) := by
  unfold tree_typed
  rw [get_eq h, bnd_some]; rfl
theorem rtyped_p {o : api_Object} (h : Small o.V) (name : Str) : ref20_Typed o name = some (pTyped o name) := by
  obtain ⟨t, h1, h2⟩ := typed_eq o name h
  rw [typed_p h] at h1
  injection h1 with h1
  rw [h2, h1]
def kidsV (o : api_Object) : api_Value := (pget o.V kKids).1
def countO (o : api_Object) : Int := (pget o.V kCount).1.N
def kidsO (o : api_Object) : List Int := nums (kidsV o).L
def badNode (o : api_Object) : Bool := ((!pTyped o kPages || ((kidsV o).Kind != 6)) || (((kidsV o).L.length : Int) == 0)) || ((pget o.V kCount).1.Kind != 2)
def isNode (o : api_Object) : Bool := !badNode o && (allRef (kidsV o).L && (decide (countO o ≥ ((kidsV o).L.length : Int)) && decide (countO o ≤ 2048)))
def nodeAt (n : Int) (o : api_Object) : tree_node := ⟨n, o.V, kidsO o, countO o⟩
theorem kidsO_len (o : api_Object) : (kidsO o).length = (kidsV o).L.length := by unfold kidsO nums; simp
theorem isNode_facts {o : api_Object} (h : isNode o = true) : 0 < (kidsO o).length ∧ ((kidsO o).length : Int) ≤ countO o ∧ countO o ≤ 2048 := by
  unfold isNode badNode at h
  simp at h
  obtain ⟨⟨⟨⟨_, _⟩, h1⟩, _⟩, _, h2, h3⟩ := h
  rw [kidsO_len]
  have : (kidsV o).L.length ≠ 0 := fun e => h1 (List.eq_nil_of_length_eq_zero e)
  exact ⟨by omega, h2, h3⟩
theorem nodeOf_eq (n : Int) (o : api_Object) (hw : W 300 o.V) : ∃ x, tree_nodeOf n o = some (x, isNode o) ∧ (isNode o = true → x = nodeAt n o) := by
  have hs := Small.of_W hw (by decide)
  have hL : ((pget o.V kKids).1.L.length : Int) ≤ 299 := Get_W (n := 299) hw (get_eq hs kKids)
  obtain ⟨x, hx, hcase⟩ := loop_node (pget o.V kKids).1.L n 0 o.V (by omega)
  unfold tree_nodeOf
  rw [show value_Get o.V (Str.mk [75, 105, 100, 115]) = _ from get_eq hs kKids, show value_Get o.V (Str.mk [67, 111, 117, 110, 116]) = _ from get_eq hs kCount, show tree_typed o (Str.mk [80, 97, 103, 101, 115]) = _ from typed_p hs kPages]
  simp only [bnd_some]
  by_cases hb : badNode o = true
  · have hn : isNode o = false := by unfold isNode; rw [hb]; rfl
    refine ⟨⟨n, o.V, [], 0⟩, ?_, fun h => by rw [hn] at h; cases h⟩
    rw [hn]; exact if_of hb rfl
  · have hb' : badNode o = false := by simpa using hb
    rcases hcase with ⟨ha, rfl⟩ | ⟨ha, z, rfl⟩
    · refine ⟨nodeAt n o, if_not hb ?_, fun _ => rfl⟩
      rw [hx]
      have hn : isNode o = (decide (countO o ≥ ((kidsV o).L.length : Int)) && decide (countO o ≤ 2048)) := by
        unfold isNode
        rw [hb', show allRef (kidsV o).L = true from ha]; rfl
      rw [hn, ← kidsO_len]
      rfl
    · have hn : isNode o = false := by
        unfold isNode
        rw [show allRef (kidsV o).L = false from ha]; simp
      refine ⟨z, if_not hb ?_, fun h => by rw [hn] at h; cases h⟩
      rw [hx, hn]
      rfl
def zeroN : tree_node := tree_node.mk 0 (api_Value.mk 0 0 (Str.mk []) ([] : List api_Value)) ([] : List Int) 0
theorem ask_eq (f : file_File) (n : Int) (h : FewD f.get_) : tree_ask f n = some (if isNode (getO f.get_ n) then (nodeAt n (getO f.get_ n), 0, 0) else (zeroN, 0, 24)) := by
  obtain ⟨x, h1, h2⟩ := nodeOf_eq n (getO f.get_ n) (h.get n)
  unfold tree_ask
  rw [Get_eq f n h, bnd_some]
  refine if_not (by simp) ?_
  rw [h1, bnd_some]
  cases hi : isNode (getO f.get_ n) with
  | true => rw [h2 hi]; rfl
  | false => rfl

/-- From which kid on. -/
def pick (d : api_Doc) : List Int → Int → Option (Int × Int)
  | [], _ => none
  | m :: l, p => if isNode (getO d m) = true then (if p < countO (getO d m) then some (m, p) else pick d l (p - countO (getO d m))) else none
abbrev zeroL : tree_Leaf := tree_Leaf.mk 0 ([] : List Int) (api_Value.mk 0 0 (Str.mk []) ([] : List api_Value))
def pdown (d : api_Doc) : Nat → Int → Int → List Int → Gv → tree_Leaf × Int
  | 0, _, _, _, _ => (zeroL, 24)
  | k + 1, n, p, path, g =>
    if countO (getO d n) = ((kidsO (getO d n)).length : Int) then
      if pTyped (getO d (ix (kidsO (getO d n)) p)) kPage = true then
        (⟨ix (kidsO (getO d n)) p, path ++ [n], ((g.give (getO d n).V).leave (getO d (ix (kidsO (getO d n)) p)).V).v⟩, 0)
      else if isNode (getO d (ix (kidsO (getO d n)) p)) = true ∧ countO (getO d (ix (kidsO (getO d n)) p)) = 1 then
        pdown d k (ix (kidsO (getO d n)) p) 0 (path ++ [n]) (g.give (getO d n).V)
      else (zeroL, 24)
    else match pick d (kidsO (getO d n)) p with
      | none => (zeroL, 24)
      | some (m, q) => pdown d k m q (path ++ [n]) (g.give (getO d n).V)

theorem pick_some {d : api_Doc} : ∀ {l : List Int} {p m q : Int}, 0 ≤ p → pick d l p = some (m, q) → m ∈ l ∧ isNode (getO d m) = true ∧ 0 ≤ q ∧ q < countO (getO d m)
  | [], _, _, _, _, h => by cases h
  | a :: l, p, m, q, h0, h => by
    unfold pick at h
    split at h
    · rename_i hn
      split at h
      · rename_i hp
        injection h with h; injection h with h1 h2
        subst h1; subst h2
        exact ⟨List.mem_cons_self, hn, h0, hp⟩
      · obtain ⟨h1, h2⟩ := pick_some (by omega) h
        exact ⟨List.mem_cons_of_mem _ h1, h2⟩
    · cases h
end Go.AB
end

section
namespace Go.AB
open Go

def pickBody (f_0 : file_File) (kids : List Int) : Int × Int → Option ((Int × Int) ⊕ ((Int × tree_node) ⊕ (Unit ⊕ (Int × Int)))) :=
  (fun ((p49, t50) : Int × Int) =>
    if decide (t50 < (kids.length : Int)) then
      need (0 ≤ t50 ∧ t50 < kids.length) <|
      bnd (tree_ask f_0 (ix kids t50)) fun r64 =>
      if r64.2.2 != 0 then
        some (.inr (.inr (.inr (r64.2.1, r64.2.2))))
      else
        if decide (p49 < r64.1.count_) then
          some (.inr (.inl (p49, r64.1)))
        else
          some (.inl (w64 (p49 - r64.1.count_), w64 (t50 + 1)))
    else
      some (.inr (.inr (.inl ()))))
def findBody (f_0 : file_File) : Int × tree_node × (List Int) × api_Value × Int → Option ((Int × tree_node × (List Int) × api_Value × Int) ⊕ (Unit ⊕ (tree_Leaf × Int × Int))) :=
  (fun ((p9, x10, path11, given12, t13) : Int × tree_node × (List Int) × api_Value × Int) =>
    if decide (t13 < 64) then
      jnS (
        need ((path11.length + [x10.n_].length) * 8 ≤ room) <|
        bnd (tree_give given12 x10.v_) fun r31 =>
        if x10.count_ == (x10.kids_.length : Int) then
          need (0 ≤ p9 ∧ p9 < x10.kids_.length) <|
          bnd (file_File_Get f_0 (ix x10.kids_ p9)) fun r32 =>
          if r32.2.2 != 0 then
            some (.inr ((tree_Leaf.mk 0 ([] : List Int) (api_Value.mk 0 0 (Str.mk []) ([] : List api_Value))), r32.2.1, r32.2.2))
          else
            bnd (tree_Page r32.1) fun r33 =>
            if r33 then
              bnd (tree_leaf (ix x10.kids_ p9) r32.1.V (path11 ++ [x10.n_]) r31) fun r34 =>
              some (.inr (r34, (0 : Int), (0 : Int)))
            else
              bnd (tree_nodeOf (ix x10.kids_ p9) r32.1) fun r35 =>
              if !r35.2 || (r35.1.count_ != 1) then
                some (.inr ((tree_Leaf.mk 0 ([] : List Int) (api_Value.mk 0 0 (Str.mk []) ([] : List api_Value))), (0 : Int), (24 : Int)))
              else
                some (.inl ((0 : Int), r35.1, path11 ++ [x10.n_], r31))
        else
          jnS (
            bndS (
              iter (pickBody f_0 x10.kids_) (p9, 0)) (fun ((p51, x53) : Int × tree_node) =>
              some (.inr (.inl (p51, x53))))
            (caseS (fun (_ : Unit) => some (.inl ())) (fun ((t61, t62) : Int × Int) => some (.inr (.inr (t61, t62)))))) (fun (_ : Unit) =>
            some (.inr ((tree_Leaf.mk 0 ([] : List Int) (api_Value.mk 0 0 (Str.mk []) ([] : List api_Value))), (0 : Int), (24 : Int))))
          (caseS (fun ((p38, x40) : Int × tree_node) => some (.inl (p38, x40, path11 ++ [x10.n_], r31))) (fun ((t46, t47) : Int × Int) => some (.inr ((tree_Leaf.mk 0 ([] : List Int) (api_Value.mk 0 0 (Str.mk []) ([] : List api_Value))), t46, t47))))) (fun ((p20, x22, path23, given24) : Int × tree_node × (List Int) × api_Value) =>
        some (.inl (p20, x22, path23, given24, w64 (t13 + 1))))
      (fun ((t27, t28, t29) : tree_Leaf × Int × Int) => some (.inr (.inr (t27, t28, t29))))
    else
      some (.inr (.inl ())))

/-- The place of a page in an object's kids, as the loop finds it. -/
def pickRes (d : api_Doc) : Option (Int × Int) → (Int × tree_node) ⊕ (Unit ⊕ (Int × Int)) → Prop
  | some (m, q), o => o = .inl (q, nodeAt m (getO d m))
  | none, o => o = .inr (.inl ()) ∨ o = .inr (.inr (0, 24))
theorem pick_runs (f : file_File) (h : FewD f.get_) (kids : List Int) (hk : kids.length ≤ 1000) : ∀ (r j : Nat) (p : Int), j + r = kids.length → 0 ≤ p → p ≤ 4611686018427387904 →
    ∃ o, Runs (pickBody f kids) (r + 1) (p, (j : Int)) o ∧ pickRes f.get_ (pick f.get_ (kids.drop j) p) o := by
  intro r
  induction r with
  | zero =>
    intro j p hj h0 h1
    refine ⟨.inr (.inl ()), .stop ?_, ?_⟩
    · exact if_not (by simp; omega) rfl
    · rw [List.drop_eq_nil_of_le (by omega)]; exact .inl rfl
  | succ r ih =>
    intro j p hj h0 h1
    have hjl : j < kids.length := by omega
    have hd : kids.drop j = kids[j] :: kids.drop (j + 1) := List.drop_eq_getElem_cons hjl
    have hx : ix kids (j : Int) = kids[j] := ix_nat hjl
    have step : ∀ o, (bnd (tree_ask f (ix kids (j : Int))) fun r64 =>
          if r64.2.2 != 0 then some (.inr (.inr (.inr (r64.2.1, r64.2.2))))
          else if decide (p < r64.1.count_) then some (.inr (.inl (p, r64.1)))
            else some (.inl (w64 (p - r64.1.count_), w64 ((j : Int) + 1)))) = o → pickBody f kids (p, (j : Int)) = o := fun o ho =>
      if_of (by simp; omega) (need_of ⟨by omega, by omega⟩ ho)
    rw [hx, ask_eq f _ h, bnd_some] at step
    rw [hd]
    unfold pick
    cases hi : isNode (getO f.get_ kids[j]) with
    | false =>
      rw [hi] at step
      refine ⟨.inr (.inr (0, 24)), Runs.stop (step _ rfl), .inr rfl⟩
    | true =>
      rw [hi] at step
      have hf := isNode_facts hi
      simp only [if_true] at step ⊢
      by_cases hp : p < countO (getO f.get_ kids[j])
      · rw [if_pos hp]
        refine ⟨.inl (p, nodeAt kids[j] (getO f.get_ kids[j])), Runs.stop (step _ ?_), rfl⟩
        exact if_not (by simp) (if_of (decide_eq_true hp) rfl)
      · rw [if_neg hp]
        obtain ⟨o, h2, h3⟩ := ih (j + 1) (p - countO (getO f.get_ kids[j])) (by omega) (by omega) (by omega)
        refine ⟨o, .step (step _ ?_) h2, h3⟩
        refine if_not (by simp) (if_not (fun hc => hp (of_decide_eq_true hc)) ?_)
        show some (Sum.inl (w64 (p - countO (getO f.get_ kids[j])), w64 ((j : Int) + 1))) = _
        rw [w64_id (by omega) (by omega), w64_id (by omega) (by omega)]
        rfl
theorem find_eq0 (f_0 : file_File) (p_1 : Int) : tree_Find f_0 p_1 = (bnd (tree_top f_0) fun r1 =>
  if r1.2.2 != 0 then
    some ((tree_Leaf.mk 0 ([] : List Int) (api_Value.mk 0 0 (Str.mk []) ([] : List api_Value))), r1.2.1, r1.2.2)
  else
    if (decide (p_1 < 0)) || (decide (p_1 ≥ r1.1.count_)) then
      some ((tree_Leaf.mk 0 ([] : List Int) (api_Value.mk 0 0 (Str.mk []) ([] : List api_Value))), 0, 25)
    else
      bnd (value_DictOf ([] : List api_Value)) fun r2 =>
      jnS (
        bndS (iter (findBody f_0) (p_1, r1.1, ([] : List Int), r2, 0)) (fun (_ : Unit) =>
          some (.inl ()))
        (fun ((t16, t17, t18) : tree_Leaf × Int × Int) => some (.inr (t16, t17, t18)))) (fun (_ : Unit) =>
        some ((tree_Leaf.mk 0 ([] : List Int) (api_Value.mk 0 0 (Str.mk []) ([] : List api_Value))), 0, 24))
      (fun ((t5, t6, t7) : tree_Leaf × Int × Int) => some (t5, t6, t7))) := rfl

/-- What the loop hands on. -/
def finL : Unit ⊕ (tree_Leaf × Int × Int) → tree_Leaf × Int × Int
  | .inl () => (zeroL, 0, 24)
  | .inr x => x
theorem kidsO_le {o : api_Object} (hw : W 300 o.V) : (kidsO o).length ≤ 299 := by
  have hL : ((pget o.V kKids).1.L.length : Int) ≤ 299 := Get_W (n := 299) hw (get_eq (Small.of_W hw (by decide)) kKids)
  rw [kidsO_len]
  unfold kidsV; omega
theorem page_eq {o : api_Object} (h : Small o.V) : tree_Page o = some (pTyped o kPage) := by
  unfold tree_Page
  rw [show tree_typed o (Str.mk [80, 97, 103, 101]) = _ from typed_p h kPage]; rfl
theorem down_runs (f : file_File) (h : FewD f.get_) : ∀ (k t : Nat) (n p : Int) (path : List Int) (g : Gv), t + k = 64 → path.length = t → isNode (getO f.get_ n) = true → 0 ≤ p → p < countO (getO f.get_ n) →
    ∃ o, Runs (findBody f) (k + 1) (p, nodeAt n (getO f.get_ n), path, g.v, (t : Int)) o ∧ finL o = ((pdown f.get_ k n p path g).1, 0, (pdown f.get_ k n p path g).2) := by
  intro k
  induction k with
  | zero =>
    intro t n p path g ht hpl hi h0 h1
    exact ⟨.inl (), .stop (if_not (by simp; omega) rfl), rfl⟩
  | succ k ih =>
    intro t n p path g ht hpl hi h0 h1
    have hs := h.small n
    have hf := isNode_facts hi
    have hroom := room_ge
    have hgo : ∀ {n' p' : Int} {o}, findBody f (p, nodeAt n (getO f.get_ n), path, g.v, (t : Int)) = some (.inl (p', nodeAt n' (getO f.get_ n'), path ++ [n], (g.give (getO f.get_ n).V).v, w64 ((t : Int) + 1))) →
        isNode (getO f.get_ n') = true → 0 ≤ p' → p' < countO (getO f.get_ n') → (pdown f.get_ k n' p' (path ++ [n]) (g.give (getO f.get_ n).V)) = o →
        ∃ o', Runs (findBody f) (k + 1 + 1) (p, nodeAt n (getO f.get_ n), path, g.v, (t : Int)) o' ∧ finL o' = (o.1, 0, o.2) := by
      intro n' p' o e1 e2 e3 e4 e5
      obtain ⟨o', k1, k2⟩ := ih (t + 1) n' p' (path ++ [n]) (g.give (getO f.get_ n).V) (by omega) (by simp; omega) e2 e3 e4
      refine ⟨o', .step (t := (p', nodeAt n' (getO f.get_ n'), path ++ [n], (g.give (getO f.get_ n).V).v, ((t + 1 : Nat) : Int))) ?_ k1, by rw [k2, e5]⟩
      rw [e1, w64_id (by omega) (by omega)]; rfl
    unfold pdown
    by_cases hc : countO (getO f.get_ n) = ((kidsO (getO f.get_ n)).length : Int)
    · rw [if_pos hc]
      have hm := h.small (ix (kidsO (getO f.get_ n)) p)
      generalize hmm : ix (kidsO (getO f.get_ n)) p = m at *
      have hx : file_File_Get f (ix (nodeAt n (getO f.get_ n)).kids_ p) = some (getO f.get_ m, 0, 0) := by
        rw [show ix (nodeAt n (getO f.get_ n)).kids_ p = m from hmm]; exact Get_eq f m h
      by_cases hp : pTyped (getO f.get_ m) kPage = true
      · rw [if_pos hp]
        refine ⟨.inr (⟨m, path ++ [n], ((g.give (getO f.get_ n).V).leave (getO f.get_ m).V).v⟩, 0, 0), .stop ?_, rfl⟩
        refine if_of (by simp; omega) ?_
        refine jnS_of (need_of (by simp; omega) (bnd_of (give_eq g _ hs) (if_of (by simp [nodeAt, hc]) (need_of (by show 0 ≤ p ∧ p < ((kidsO (getO f.get_ n)).length : Int); omega) (bnd_of hx (if_not (by simp) (bnd_of (page_eq hm) (if_of hp (bnd_of (by
          rw [show ix (nodeAt n (getO f.get_ n)).kids_ p = m from hmm]; exact leaf_eq _ _ _ _ hm) rfl))))))))) rfl
      · rw [if_neg hp]
        obtain ⟨x, e1, e2⟩ := nodeOf_eq m (getO f.get_ m) (h.get m)
        have e1' : tree_nodeOf (ix (nodeAt n (getO f.get_ n)).kids_ p) (getO f.get_ m) = some (x, isNode (getO f.get_ m)) := by
          rw [show ix (nodeAt n (getO f.get_ n)).kids_ p = m from hmm]; exact e1
        have go : ∀ {z : (Int × tree_node × (List Int) × api_Value) ⊕ (tree_Leaf × Int × Int)} {r}, (if !(isNode (getO f.get_ m)) || (x.count_ != 1) then some (.inr (zeroL, (0 : Int), (24 : Int))) else some (.inl ((0 : Int), x, path ++ [n], (g.give (getO f.get_ n).V).v))) = some z →
            (match z with | .inl (p20, x22, path23, given24) => some (.inl (p20, x22, path23, given24, w64 ((t : Int) + 1))) | .inr (t27, t28, t29) => some (.inr (.inr (t27, t28, t29)))) = r → findBody f (p, nodeAt n (getO f.get_ n), path, g.v, (t : Int)) = r := by
          intro z r hz hr
          refine if_of (by simp; omega) (jnS_of (z := z) (need_of (by simp; omega) (bnd_of (give_eq g _ hs) (if_of (by simp [nodeAt, hc]) (need_of (by show 0 ≤ p ∧ p < ((kidsO (getO f.get_ n)).length : Int); omega) (bnd_of hx (if_not (by simp) (bnd_of (page_eq hm) (if_not hp (bnd_of e1' hz))))))))) ?_)
          rw [← hr]
          cases z <;> rfl
        by_cases hq : isNode (getO f.get_ m) = true ∧ countO (getO f.get_ m) = 1
        · rw [if_pos hq]
          have hxx := e2 hq.1
          subst hxx
          exact hgo (go (if_not (by simp [hq.1, nodeAt, hq.2]) rfl) rfl) hq.1 (Int.le_refl 0) (by rw [hq.2]; decide) rfl
        · rw [if_neg hq]
          refine ⟨.inr (zeroL, 0, 24), .stop (go (z := .inr (zeroL, 0, 24)) (if_of ?_ rfl) rfl), rfl⟩
          cases hm1 : isNode (getO f.get_ m) with
          | false => rfl
          | true =>
            have := e2 hm1
            subst this
            have hne : countO (getO f.get_ m) ≠ 1 := fun e => hq ⟨hm1, e⟩
            simpa [nodeAt] using hne
    · rw [if_neg hc]
      obtain ⟨o, k1, k2⟩ := pick_runs f h (kidsO (getO f.get_ n)) (by have := kidsO_le (h.get n); omega) (kidsO (getO f.get_ n)).length 0 p (by omega) h0 (by omega)
      rw [List.drop_zero] at k2
      have k3 := k1.iter (by omega)
      have go : ∀ {z : (Int × tree_node × (List Int) × api_Value) ⊕ (tree_Leaf × Int × Int)} {r},
          (jnS (bndS (some o) (fun ((p51, x53) : Int × tree_node) => some (.inr (.inl (p51, x53)))) (caseS (fun (_ : Unit) => some (.inl ())) (fun ((t61, t62) : Int × Int) => some (.inr (.inr (t61, t62)))))) (fun (_ : Unit) => some (.inr (zeroL, (0 : Int), (24 : Int))))
            (caseS (fun ((p38, x40) : Int × tree_node) => some (.inl (p38, x40, path ++ [n], (g.give (getO f.get_ n).V).v))) (fun ((t46, t47) : Int × Int) => some (.inr (zeroL, t46, t47))))) = some z →
          (match z with | .inl (p20, x22, path23, given24) => some (.inl (p20, x22, path23, given24, w64 ((t : Int) + 1))) | .inr (t27, t28, t29) => some (.inr (.inr (t27, t28, t29)))) = r → findBody f (p, nodeAt n (getO f.get_ n), path, g.v, (t : Int)) = r := by
        intro z r hz hr
        refine if_of (by simp; omega) (jnS_of (z := z) (need_of (by simp; omega) (bnd_of (give_eq g _ hs) (if_not (by simpa [nodeAt] using hc) ?_))) ?_)
        · rw [← hz, ← k3]; rfl
        · rw [← hr]
          cases z <;> rfl
      cases hpk : pick f.get_ (kidsO (getO f.get_ n)) p with
      | none =>
        rw [hpk] at k2
        refine ⟨.inr (zeroL, 0, 24), .stop (go (z := .inr (zeroL, 0, 24)) ?_ rfl), rfl⟩
        rcases k2 with rfl | rfl <;> rfl
      | some mq =>
        obtain ⟨m, q⟩ := mq
        obtain ⟨_, p2, p3, p4⟩ := pick_some h0 hpk
        rw [hpk] at k2
        have k2' : o = .inl (q, nodeAt m (getO f.get_ m)) := k2
        subst k2'
        exact hgo (go (z := .inl (q, nodeAt m (getO f.get_ m), path ++ [n], (g.give (getO f.get_ n).V).v)) rfl rfl) p2 p3 p4 rfl
def isRoot (o : api_Object) : Bool := pTyped o kCatalog && ((pget o.V kPages).1.Kind == 8)
def topN (f : file_File) : Int := (pget (getO f.get_ f.root_).V kPages).1.N
theorem top_eq (f : file_File) (h : FewD f.get_) : tree_top f = some (if isRoot (getO f.get_ f.root_) then (if isNode (getO f.get_ (topN f)) then (nodeAt (topN f) (getO f.get_ (topN f)), 0, 0) else (zeroN, 0, 24)) else (zeroN, 0, 23)) := by
  have hs := h.small f.root_
  unfold tree_top file_File_Root file_File_is
  simp only [bnd_some]
  rw [show (!(true || false)) = false from rfl]
  simp only [Bool.false_eq_true, if_false, bnd_some]
  rw [Get_eq f _ h, bnd_some]
  refine if_not (by simp) ?_
  have hr : tree_Root (getO f.get_ f.root_) = some (if isRoot (getO f.get_ f.root_) then (topN f, true) else (0, false)) := by
    unfold tree_Root
    rw [show value_Get (getO f.get_ f.root_).V (Str.mk [80, 97, 103, 101, 115]) = _ from get_eq hs kPages, show tree_typed (getO f.get_ f.root_) (Str.mk [67, 97, 116, 97, 108, 111, 103]) = _ from typed_p hs kCatalog]
    simp only [bnd_some]
    unfold isRoot
    cases pTyped (getO f.get_ f.root_) kCatalog <;> cases hk : ((pget (getO f.get_ f.root_).V kPages).1.Kind == 8) <;> simp [bne, hk, topN]
  rw [hr, bnd_some]
  cases isRoot (getO f.get_ f.root_) with
  | false => rfl
  | true =>
    simp only [if_true, Bool.not_true, Bool.false_eq_true, if_false]
    rw [ask_eq f _ h, bnd_some]
/-- A page's leaf, of a Doc. -/
def pFind (f : file_File) (p : Int) : tree_Leaf × Int :=
  if isRoot (getO f.get_ f.root_) = true then
    if isNode (getO f.get_ (topN f)) = true then
      if 0 ≤ p ∧ p < countO (getO f.get_ (topN f)) then pdown f.get_ 64 (topN f) p [] ⟨none, none, none, none⟩ else (zeroL, 25)
    else (zeroL, 24)
  else (zeroL, 23)
theorem find_eq (f : file_File) (p : Int) (h : FewD f.get_) : tree_Find f p = some ((pFind f p).1, 0, (pFind f p).2) := by
  rw [find_eq0, top_eq f h, bnd_some]
  unfold pFind
  cases isRoot (getO f.get_ f.root_) with
  | false => rfl
  | true =>
    cases hn : isNode (getO f.get_ (topN f)) with
    | false => rfl
    | true =>
      simp only [if_true]
      refine if_not (by simp) ?_
      by_cases hp : 0 ≤ p ∧ p < countO (getO f.get_ (topN f))
      · rw [if_pos hp]
        refine if_not (by simp [nodeAt]; omega) (bnd_of dictOf_nil ?_)
        obtain ⟨o, k1, k2⟩ := down_runs f h 64 0 (topN f) p [] ⟨none, none, none, none⟩ rfl rfl hn hp.1 hp.2
        have k3 := k1.iter (by decide)
        rw [← k2]
        have e : ∀ (o : Unit ⊕ (tree_Leaf × Int × Int)), (jnS (bndS (some o) (fun (_ : Unit) => some (.inl ())) (fun ((t16, t17, t18) : tree_Leaf × Int × Int) => some (.inr (t16, t17, t18)))) (fun (_ : Unit) => some ((tree_Leaf.mk 0 ([] : List Int) (api_Value.mk 0 0 (Str.mk []) ([] : List api_Value))), 0, 24)) (fun ((t5, t6, t7) : tree_Leaf × Int × Int) => some (t5, t6, t7))) = some (finL o) := fun o => by
          cases o <;> rfl
        rw [show iter (findBody f) (p, nodeAt (topN f) (getO f.get_ (topN f)), ([] : List Int), Gv.v ⟨none, none, none, none⟩, 0) = some o from k3]
        rw [e, k2]
      · rw [if_neg hp]
        exact if_of (by simp [nodeAt]; omega) rfl
end Go.AB
end

section
namespace Go.AB
open Go

theorem get_W {v : api_Value} {n : Nat} (hw : W (n + 2) v) (key : Str) : W (n + 1) (pget v key).1 := by
  unfold pget
  cases hg : value_Get v key with
  | none => exact ⟨Nat.zero_le _, fun x hx => by cases hx⟩
  | some r =>
    show W (n + 1) r.1
    unfold value_Get at hg
    cases hf : value_find v key with
    | none => rw [hf] at hg; cases hg
    | some i =>
      rw [hf, bnd_some] at hg
      split at hg
      · injection hg with hg; subst hg; exact ⟨Nat.zero_le _, fun x hx => by cases hx⟩
      · split at hg
        · injection hg with hg; subst hg; exact ⟨Nat.zero_le _, fun x hx => by cases hx⟩
        · unfold need at hg
          split at hg
          · rename_i hb
            injection hg with hg; subst hg
            show W (n + 1) (ix v.L _)
            rw [ix_at (by omega)]
            exact hw.2 _ (List.getElem_mem (l := v.L) (n := (w64 ((i : Int) + 1)).toNat) (by omega))
          · cases hg

/-- A way by Kids. -/
def ChainK (d : api_Doc) : List Int → Int → Prop
  | [], _ => False
  | [a], m => m ∈ kidsO (getO d a)
  | a :: b :: l, m => b ∈ kidsO (getO d a) ∧ ChainK d (b :: l) m
def giveAll (d : api_Doc) (g : Gv) (way : List Int) : Gv := way.foldl (fun g a => g.give (getO d a).V) g
theorem ix_mem {l : List Int} {p : Int} (h0 : 0 ≤ p) (h1 : p < (l.length : Int)) : ix l p ∈ l := by
  rw [ix_at (by omega)]; exact List.getElem_mem _
theorem pdown_ok {d : api_Doc} : ∀ (k : Nat) (n p : Int) (path : List Int) (g : Gv), 0 ≤ p → p < countO (getO d n) →
    ((pdown d k n p path g).2 ≠ 0 ∧ (pdown d k n p path g).1 = zeroL) ∨
    ∃ way m, (n :: way).length ≤ k ∧ ChainK d (n :: way) m ∧ pdown d k n p path g = (⟨m, path ++ (n :: way), ((giveAll d g (n :: way)).leave (getO d m).V).v⟩, 0)
  | 0, _, _, _, _, _, _ => .inl ⟨by simp [pdown], rfl⟩
  | k + 1, n, p, path, g, h0, h1 => by
    unfold pdown
    by_cases hc : countO (getO d n) = ((kidsO (getO d n)).length : Int)
    · rw [if_pos hc]
      by_cases hp : pTyped (getO d (ix (kidsO (getO d n)) p)) kPage = true
      · rw [if_pos hp]
        exact .inr ⟨[], _, by simp, ix_mem h0 (by omega), rfl⟩
      · rw [if_neg hp]
        by_cases hq : isNode (getO d (ix (kidsO (getO d n)) p)) = true ∧ countO (getO d (ix (kidsO (getO d n)) p)) = 1
        · rw [if_pos hq]
          rcases pdown_ok k (ix (kidsO (getO d n)) p) 0 (path ++ [n]) (g.give (getO d n).V) (Int.le_refl 0) (by rw [hq.2]; decide) with h | ⟨way, m, e1, e2, e3⟩
          · exact .inl h
          · refine .inr ⟨ix (kidsO (getO d n)) p :: way, m, by simp at e1 ⊢; omega, ⟨ix_mem h0 (by omega), e2⟩, ?_⟩
            rw [e3]
            simp [giveAll]
        · rw [if_neg hq]
          exact .inl ⟨by decide, rfl⟩
    · rw [if_neg hc]
      cases hpk : pick d (kidsO (getO d n)) p with
      | none => exact .inl ⟨by simp, rfl⟩
      | some mq =>
        obtain ⟨m0, q⟩ := mq
        obtain ⟨p1, p2, p3, p4⟩ := pick_some h0 hpk
        rcases pdown_ok k m0 q (path ++ [n]) (g.give (getO d n).V) p3 p4 with h | ⟨way, m, e1, e2, e3⟩
        · exact .inl h
        · refine .inr ⟨m0 :: way, m, by simp at e1 ⊢; omega, ⟨p1, e2⟩, ?_⟩
          show pdown d k m0 q (path ++ [n]) (g.give (getO d n).V) = _
          rw [e3]
          simp [giveAll]
/-- What the last on the way that has it has. -/
def lastOf (d : api_Doc) (key : Str) (o : Option api_Value) (way : List Int) : Option api_Value := way.foldl (fun o a => over o (pget (getO d a).V key)) o
theorem giveAll_c (d : api_Doc) : ∀ (way : List Int) (g : Gv), (giveAll d g way).c = lastOf d kC g.c way ∧ (giveAll d g way).m = lastOf d kM g.m way ∧ (giveAll d g way).r = lastOf d kR g.r way ∧ (giveAll d g way).t = lastOf d kT g.t way
  | [], _ => ⟨rfl, rfl, rfl, rfl⟩
  | a :: way, g => giveAll_c d way (g.give (getO d a).V)
theorem leave_L {F : Gv} {v : api_Value} {x : Str × api_Value} (h : x ∈ (F.leave v).L) : (pget v x.1).2 = false ∧ ((x.1 = kC ∧ F.c = some x.2) ∨ (x.1 = kM ∧ F.m = some x.2) ∨ (x.1 = kR ∧ F.r = some x.2) ∨ (x.1 = kT ∧ F.t = some x.2)) := by
  have one : ∀ {k : Str} {o : Option api_Value}, x ∈ opt1 k (lack o (pget v k)) → (pget v x.1).2 = false ∧ x.1 = k ∧ o = some x.2 := by
    intro k o hx
    unfold lack at hx
    split at hx
    · cases hx
    · rename_i hp
      cases o with
      | none => cases hx
      | some y =>
        have : x = (k, y) := by simpa [opt1] using hx
        subst this
        exact ⟨by simpa using hp, rfl, rfl⟩
  unfold Gv.L Gv.leave at h
  simp only [List.mem_append] at h
  rcases h with h | h | h | h
  · obtain ⟨a, b, c⟩ := one h; exact ⟨a, .inl ⟨b, c⟩⟩
  · obtain ⟨a, b, c⟩ := one h; exact ⟨a, .inr (.inl ⟨b, c⟩)⟩
  · obtain ⟨a, b, c⟩ := one h; exact ⟨a, .inr (.inr (.inl ⟨b, c⟩))⟩
  · obtain ⟨a, b, c⟩ := one h; exact ⟨a, .inr (.inr (.inr ⟨b, c⟩))⟩
theorem given_L {d : api_Doc} {way : List Int} {v : api_Value} {x : Str × api_Value} (h : x ∈ ((giveAll d ⟨none, none, none, none⟩ way).leave v).L) : (pget v x.1).2 = false ∧ lastOf d x.1 none way = some x.2 := by
  obtain ⟨h1, h2⟩ := leave_L h
  obtain ⟨c, m, r, t⟩ := giveAll_c d way ⟨none, none, none, none⟩
  refine ⟨h1, ?_⟩
  rcases h2 with ⟨e, h2⟩ | ⟨e, h2⟩ | ⟨e, h2⟩ | ⟨e, h2⟩ <;> rw [e]
  · rw [← c]; exact h2
  · rw [← m]; exact h2
  · rw [← r]; exact h2
  · rw [← t]; exact h2
def lastV (d : api_Doc) (key : Str) (l : api_Value) (way : List Int) : api_Value := way.foldl (fun l a => if (pget (getO d a).V key).2 then (pget (getO d a).V key).1 else l) l
theorem lastV_eq (d : api_Doc) (key : Str) : ∀ (way : List Int) (o : Option api_Value) (l x : api_Value), (∀ y, o = some y → l = y) → lastOf d key o way = some x → lastV d key l way = x
  | [], o, l, x, h, e => h x e
  | a :: way, o, l, x, h, e => by
    refine lastV_eq d key way (over o (pget (getO d a).V key)) _ x (fun y hy => ?_) e
    show (if (pget (getO d a).V key).2 then (pget (getO d a).V key).1 else l) = y
    unfold over at hy
    cases hp : (pget (getO d a).V key).2 with
    | true =>
      rw [hp] at hy
      simp only [if_true] at hy ⊢
      injection hy
    | false =>
      rw [hp] at hy
      simp only [Bool.false_eq_true, if_false] at hy ⊢
      exact h y hy
theorem lastV_W {d : api_Doc} (hd : FewD d) (key : Str) : ∀ (way : List Int) (l : api_Value), W 300 l → W 300 (lastV d key l way)
  | [], _, h => h
  | a :: way, l, h => by
    refine lastV_W hd key way _ ?_
    show W 300 (if (pget (getO d a).V key).2 then (pget (getO d a).V key).1 else l)
    split
    · exact W_mono 299 300 _ (by decide) (get_W (n := 298) (hd.get a) key)
    · exact h
theorem lastV_take (d : api_Doc) (key : Str) (l : api_Value) (way : List Int) (k : Nat) (h : k < way.length) : lastV d key l (way.take (k + 1)) = if (pget (getO d way[k]).V key).2 then (pget (getO d way[k]).V key).1 else lastV d key l (way.take k) := by
  unfold lastV
  rw [List.take_add_one, List.foldl_append]
  simp [h]
end Go.AB
end

section
namespace Go.AB
open Go

theorem rnode_eq (o : api_Object) (hw : W 300 o.V) : ref20_Node o = some (if isNode o then (countO o, kidsO o, true) else (0, [], false)) := by
  have hs := Small.of_W hw (by decide)
  have hL : ((pget o.V kKids).1.L.length : Int) ≤ 299 := Get_W (n := 299) hw (get_eq hs kKids)
  obtain ⟨y, hy, hyc⟩ := loop_ref (pget o.V kKids).1.L (by omega)
  unfold ref20_Node
  rw [show ref11_Get o.V (Str.mk [75, 105, 100, 115]) = _ from rget_eq hs kKids, show ref11_Get o.V (Str.mk [67, 111, 117, 110, 116]) = _ from rget_eq hs kCount, show ref20_Typed o (Str.mk [80, 97, 103, 101, 115]) = _ from rtyped_p hs kPages]
  simp only [bnd_some]
  rw [hy, hyc]
  cases hb : badNode o with
  | true =>
    have hn : isNode o = false := by unfold isNode; rw [hb]; rfl
    rw [hn]
    refine if_of ?_ rfl
    have hb' := hb
    unfold badNode kidsV at hb'
    rw [hb']; rfl
  | false =>
    have hb' := hb
    unfold badNode kidsV at hb'
    rw [hb', Bool.false_or]
    by_cases hr : ((decide ((pget o.V kCount).1.N < ((pget o.V kKids).1.L.length : Int))) || (decide ((pget o.V kCount).1.N > 2048))) = true
    · have hn : isNode o = false := by
        unfold isNode countO kidsV
        cases hh : (decide ((pget o.V kCount).1.N ≥ ((pget o.V kKids).1.L.length : Int)) && decide ((pget o.V kCount).1.N ≤ 2048)) with
        | false => simp
        | true =>
          simp only [Bool.or_eq_true, Bool.and_eq_true, decide_eq_true_eq] at hr hh
          omega
      rw [hn]
      exact if_of hr rfl
    · refine if_not hr ?_
      simp only [Bool.not_eq_true, Bool.or_eq_false_iff, decide_eq_false_iff_not] at hr
      have hc : (decide (countO o ≥ ((kidsV o).L.length : Int)) && decide (countO o ≤ 2048)) = true := by
        unfold countO kidsV
        simp only [Bool.and_eq_true, decide_eq_true_eq]
        omega
      unfold resN
      cases ha : allRef (pget o.V kKids).1.L with
      | true =>
        have hn : isNode o = true := by
          unfold isNode
          rw [hb, hc, show allRef (kidsV o).L = true from ha]; rfl
        rw [hn]; rfl
      | false =>
        have hn : isNode o = false := by
          unfold isNode
          rw [show allRef (kidsV o).L = false from ha]; simp
        rw [hn]; rfl

/-- What a page is given by nodes' values. -/
def gvW (way : List api_Value) : Gv := way.foldl (fun g v => g.give v) ⟨none, none, none, none⟩
theorem gvW_snoc (way : List api_Value) (v : api_Value) : gvW (way ++ [v]) = (gvW way).give v := by
  unfold gvW; rw [List.foldl_append]; rfl
def lastW (key : Str) (way : List api_Value) : Option api_Value := way.foldl (fun o v => over o (pget v key)) none
theorem fold_c : ∀ (way : List api_Value) (g : Gv), (way.foldl (fun g v => g.give v) g).c = way.foldl (fun o v => over o (pget v kC)) g.c ∧ (way.foldl (fun g v => g.give v) g).m = way.foldl (fun o v => over o (pget v kM)) g.m ∧
    (way.foldl (fun g v => g.give v) g).r = way.foldl (fun o v => over o (pget v kR)) g.r ∧ (way.foldl (fun g v => g.give v) g).t = way.foldl (fun o v => over o (pget v kT)) g.t
  | [], _ => ⟨rfl, rfl, rfl, rfl⟩
  | a :: way, g => fold_c way (g.give a)
def kk4 : Nat → Str
  | 0 => kC
  | 1 => kM
  | 2 => kR
  | _ => kT
theorem ix_kk4 {k : Nat} (h : k < 4) : ix [kC, kM, kR, kT] (k : Int) = kk4 k := by
  rcases (by omega : k = 0 ∨ k = 1 ∨ k = 2 ∨ k = 3) with rfl | rfl | rfl | rfl <;> rfl
def contrib (page : api_Value) (way : List api_Value) (k : Nat) : List (Str × api_Value) := opt1 (kk4 k) (lack (lastW (kk4 k) way) (pget page (kk4 k)))
def contribs (page : api_Value) (way : List api_Value) : Nat → List (Str × api_Value)
  | 0 => []
  | k + 1 => contribs page way k ++ contrib page way k
theorem contribs_all (page : api_Value) (way : List api_Value) : contribs page way 4 = ((gvW way).leave page).L := by
  obtain ⟨c, m, r, t⟩ := fold_c way ⟨none, none, none, none⟩
  have e : ∀ {a b : Option api_Value} {k : Str}, a = b → lack a (pget page k) = lack b (pget page k) := fun h => by rw [h]
  show ((([] ++ contrib page way 0) ++ contrib page way 1) ++ contrib page way 2) ++ contrib page way 3 = _
  unfold Gv.L Gv.leave contrib
  rw [show (gvW way).c = lastW kC way from c, show (gvW way).m = lastW kM way from m, show (gvW way).r = lastW kR way from r, show (gvW way).t = lastW kT way from t]
  simp [kk4]
theorem contribs_len (page : api_Value) (way : List api_Value) : ∀ k, (contribs page way k).length ≤ k
  | 0 => Nat.le_refl 0
  | k + 1 => by
    have := contribs_len page way k
    have h2 : (contrib page way k).length ≤ 1 := by
      unfold contrib
      cases lack (lastW (kk4 k) way) (pget page (kk4 k)) <;> simp [opt1]
    show (contribs page way k ++ contrib page way k).length ≤ k + 1
    rw [List.length_append]; omega
theorem encP_app : ∀ (A B : List (Str × api_Value)), encP (A ++ B) = encP A ++ encP B
  | [], _ => rfl
  | a :: A, B => by show _ :: _ :: encP (A ++ B) = _; rw [encP_app A B]; rfl

theorem find_ge {v : api_Value} (h : Small v) (key : Str) : ∃ r, value_find v key = some r ∧ decide (r ≥ 0) = (pget v key).2 := by
  obtain ⟨r, h1, h2, h3⟩ := value_find_some v key h
  refine ⟨r, h1, ?_⟩
  have hs : (v.L.length : Int) ≤ 4611686018427387904 := h
  have hg := get_eq h key
  unfold value_Get at hg
  rw [h1, bnd_some] at hg
  by_cases h0 : r < 0
  · rw [if_pos (by simpa using h0)] at hg
    injection hg with hg
    rw [← hg]; simp; omega
  · rw [if_neg (by simpa using h0), w64_id (by omega) (by omega)] at hg
    by_cases h4 : (r + 1 == (v.L.length : Int)) = true
    · rw [if_pos h4] at hg
      injection hg with hg
      rw [← hg]; simp; omega
    · rw [if_neg h4, need_pos (by have : ¬ r + 1 = (v.L.length : Int) := by simpa using h4
                                  exact ⟨by omega, by omega⟩)] at hg
      injection hg with hg
      rw [← hg]; simp; omega

def withL (out : api_Value) (key : Str) : Option api_Value → api_Value
  | none => out
  | some x => ⟨out.Kind, out.N, out.S, out.L ++ [⟨5, 0, key, []⟩, x]⟩
theorem lastW_take (key : Str) (way : List api_Value) (j : Nat) (h : j < way.length) : lastW key (way.take (j + 1)) = over (lastW key (way.take j)) (pget way[j] key) := by
  unfold lastW
  rw [List.take_add_one, List.foldl_append]
  simp [h]
theorem back_loop (key : Str) (way : List api_Value) (out : api_Value) (hl : way.length ≤ 1000) (ho : out.L.length ≤ 100) (hs : ∀ v ∈ way, Small v) (c : Prop) [Decidable c] (hc : c) :
    iter (fun (j15 : Int) =>
              if decide (j15 ≥ 0) then
                need (0 ≤ j15 ∧ j15 < way.length) <|
                need c <|
                bnd (ref11_Get (ix way j15) key) fun r22 =>
                if r22.2 then
                  need c <|
                  need ((out.L.length + [(api_Value.mk 5 0 key ([] : List api_Value)), r22.1].length) * 56 ≤ room) <|
                  some (.inr (api_Value.mk out.Kind out.N out.S (out.L ++ [(api_Value.mk 5 0 key ([] : List api_Value)), r22.1])))
                else
                  some (.inl (w64 (j15 - 1)))
              else
                some (.inr out)) (w64 ((way.length : Int) - 1)) = some (withL out key (lastW key way)) := by
  have key1 : ∀ j, j ≤ way.length → Runs (fun (j15 : Int) =>
              if decide (j15 ≥ 0) then
                need (0 ≤ j15 ∧ j15 < way.length) <|
                need c <|
                bnd (ref11_Get (ix way j15) key) fun r22 =>
                if r22.2 then
                  need c <|
                  need ((out.L.length + [(api_Value.mk 5 0 key ([] : List api_Value)), r22.1].length) * 56 ≤ room) <|
                  some (.inr (api_Value.mk out.Kind out.N out.S (out.L ++ [(api_Value.mk 5 0 key ([] : List api_Value)), r22.1])))
                else
                  some (.inl (w64 (j15 - 1)))
              else
                some (.inr out)) (j + 1) ((j : Int) - 1) (withL out key (lastW key (way.take j))) := by
    intro j
    induction j with
    | zero => exact fun _ => .stop (if_not (by decide) rfl)
    | succ j ih =>
      intro hj
      have hjl : j < way.length := by omega
      rw [show ((j + 1 : Nat) : Int) - 1 = (j : Int) by omega, lastW_take key way j hjl]
      have hx : ix way (j : Int) = way[j] := ix_nat hjl
      have hroom := room_ge
      cases hp : (pget way[j] key).2 with
      | true =>
        refine .stop (if_of (by simp) (need_of (by omega) (need_of hc (bnd_of (by rw [hx]; exact rget_eq (hs _ (List.getElem_mem hjl)) key) (if_of hp (need_of hc (need_of (by simp; omega) ?_)))))))
        simp [over, hp, withL]
      | false =>
        refine .step (t := (j : Int) - 1) (if_of (by simp) (need_of (by omega) (need_of hc (bnd_of (by rw [hx]; exact rget_eq (hs _ (List.getElem_mem hjl)) key) (if_not (by rw [hp]; decide) ?_))))) ?_
        · rw [w64_id (by omega) (by omega)]
        · have e : over (lastW key (way.take j)) (pget way[j] key) = lastW key (way.take j) := by simp [over, hp]
          rw [e]
          exact ih (by omega)
  have := (key1 way.length (Nat.le_refl _)).iter (by omega)
  rw [List.take_length] at this
  rw [w64_id (by omega) (by omega)]
  exact this
theorem given_eq (page : api_Value) (way : List api_Value) (hp : Small page) (hl : way.length ≤ 1000) (hs : ∀ v ∈ way, Small v) : ref20_Given page way = some ((gvW way).leave page).v := by
  unfold ref20_Given ref20_names
  rw [bnd_some]
  refine jn_of (iter_acc (o := ((gvW way).leave page).v) 4 (fun k => dictV (contribs page way k)) rfl (by decide) (fun k hk => ?_) ?_) rfl
  · have hcl := contribs_len page way k
    have hdl : (dictV (contribs page way k)).L.length = 2 * (contribs page way k).length := encP_len _
    refine if_of (by show decide ((k : Int) < ((4 : Nat) : Int)) = true; simp; omega) (jn_of (a := dictV (contribs page way (k + 1))) (need_of (by show 0 ≤ (k : Int) ∧ (k : Int) < ((4 : Nat) : Int); omega) ?_) rfl)
    change bnd (ref11_Find page (ix [kC, kM, kR, kT] (k : Int))) (fun r14 => if decide (r14 ≥ 0) = true then some _ else iter (fun (j15 : Int) =>
              if decide (j15 ≥ 0) then
                need (0 ≤ j15 ∧ j15 < way.length) <|
                need (0 ≤ (k : Int) ∧ (k : Int) < ((4 : Nat) : Int)) <|
                bnd (ref11_Get (ix way j15) (ix [kC, kM, kR, kT] (k : Int))) fun r22 =>
                if r22.2 then
                  need (0 ≤ (k : Int) ∧ (k : Int) < ((4 : Nat) : Int)) <|
                  need (((dictV (contribs page way k)).L.length + [(api_Value.mk 5 0 (ix [kC, kM, kR, kT] (k : Int)) ([] : List api_Value)), r22.1].length) * 56 ≤ room) <|
                  some (.inr (api_Value.mk (dictV (contribs page way k)).Kind (dictV (contribs page way k)).N (dictV (contribs page way k)).S ((dictV (contribs page way k)).L ++ [(api_Value.mk 5 0 (ix [kC, kM, kR, kT] (k : Int)) ([] : List api_Value)), r22.1])))
                else
                  some (.inl (w64 (j15 - 1)))
              else
                some (.inr (dictV (contribs page way k)))) (w64 ((way.length : Int) - 1))) = _
    rw [ix_kk4 hk, ref11_Find_eq]
    obtain ⟨r, h1, h2⟩ := find_ge hp (kk4 k)
    rw [h1, bnd_some, h2]
    have e1 : dictV (contribs page way (k + 1)) = withL (dictV (contribs page way k)) (kk4 k) (lack (lastW (kk4 k) way) (pget page (kk4 k))) := by
      show dictV (contribs page way k ++ contrib page way k) = _
      unfold dictV contrib
      rw [encP_app]
      cases lack (lastW (kk4 k) way) (pget page (kk4 k)) with
      | none => simp [opt1, encP, withL]
      | some x => simp [opt1, encP, withL]
    rw [e1]
    cases hq : (pget page (kk4 k)).2 with
    | true =>
      refine if_of rfl ?_
      simp [lack, hq, withL]
    | false =>
      refine if_not (by simp) ?_
      rw [back_loop (kk4 k) way _ hl (by omega) hs _ (by omega)]
      simp [lack, hq]
  · refine if_not (by decide) ?_
    rw [contribs_all]; rfl
end Go.AB
end

section
namespace Go.AB
open Go

def toR (l : tree_Leaf) : ref20_Leaf := ⟨l.Page, l.Path, l.Given⟩
def fileR (d : api_Doc) : ref19_File := ref19_File.mk d.Objects (ref16_File.mk ([] : List UInt8) ([] : List Bool)) (ref17_Table.mk ([] : List Int) d.Root)
theorem rGet_eq (d : api_Doc) (n : Int) (h : FewD d) : ref19_Get (fileR d) n = some (getO d n, 0, 0) := by
  have hl := h.len
  unfold ref19_Get getO
  by_cases hc : ((decide (n < 1)) || (decide (n > (d.Objects.length : Int)))) = true
  · rw [if_pos hc]; exact if_of hc rfl
  · rw [if_neg hc]
    refine if_not hc ?_
    simp at hc
    rw [w64_id (by omega) (by omega)]
    exact need_of (by show 0 ≤ n - 1 ∧ n - 1 < (d.Objects.length : Int); omega) rfl
abbrev zeroR : ref20_Leaf := ref20_Leaf.mk 0 ([] : List Int) (api_Value.mk 0 0 (Str.mk []) ([] : List api_Value))

def rpickBody (d : api_Doc) (fuel : Nat) (kids : List Int) (path : List Int) (way : List api_Value) : Int × Int → Option ((Int × Int) ⊕ (Unit ⊕ (ref20_Leaf × Int × Int))) := fun ((p11, k12) : Int × Int) =>
              if decide (k12 < (kids.length : Int)) then
                need (0 ≤ k12 ∧ k12 < kids.length) <|
                bnd (ref19_Get (fileR d) (ix kids k12)) fun r17 =>
                if r17.2.2 != 0 then
                  some (.inr (.inr ((ref20_Leaf.mk 0 ([] : List Int) (api_Value.mk 0 0 (Str.mk []) ([] : List api_Value))), r17.2.1, r17.2.2)))
                else
                  bnd (ref20_Node r17.1) fun r18 =>
                  if !r18.2.2 then
                    some (.inr (.inr ((ref20_Leaf.mk 0 ([] : List Int) (api_Value.mk 0 0 (Str.mk []) ([] : List api_Value))), (0 : Int), (24 : Int))))
                  else
                    if decide (p11 < r18.1) then
                      need (0 ≤ k12 ∧ k12 < kids.length) <|
                      bnd (ref20_down fuel (fileR d) (ix kids k12) r17.1 p11 path way) fun r19 =>
                      some (.inr (.inr (r19.1, r19.2.1, r19.2.2)))
                    else
                      some (.inl (w64 (p11 - r18.1), w64 (k12 + 1)))
              else
                some (.inr (.inl ()))
def rpickRes (d : api_Doc) (k : Nat) (path : List Int) (g : Gv) : Option (Int × Int) → Unit ⊕ (ref20_Leaf × Int × Int) → Prop
  | none, o => o = .inl () ∨ o = .inr (zeroR, 0, 24)
  | some (m, q), o => o = .inr (toR (pdown d k m q path g).1, 0, (pdown d k m q path g).2)
theorem rpick_runs (d : api_Doc) (h : FewD d) (fuel k : Nat) (kids : List Int) (hk : kids.length ≤ 1000) (path : List Int) (way : List api_Value)
    (hdown : ∀ m q, isNode (getO d m) = true → 0 ≤ q → q < countO (getO d m) → ref20_down fuel (fileR d) m (getO d m) q path way = some (toR (pdown d k m q path (gvW way)).1, 0, (pdown d k m q path (gvW way)).2)) : ∀ (r j : Nat) (p : Int), j + r = kids.length → 0 ≤ p → p ≤ 4611686018427387904 →
    ∃ o, Runs (rpickBody d fuel kids path way) (r + 1) (p, (j : Int)) o ∧ rpickRes d k path (gvW way) (pick d (kids.drop j) p) o := by
  intro r
  induction r with
  | zero =>
    intro j p hj h0 h1
    refine ⟨.inl (), .stop ?_, ?_⟩
    · exact if_not (by simp; omega) rfl
    · rw [List.drop_eq_nil_of_le (by omega)]; exact .inl rfl
  | succ r ih =>
    intro j p hj h0 h1
    have hjl : j < kids.length := by omega
    have hd : kids.drop j = kids[j] :: kids.drop (j + 1) := List.drop_eq_getElem_cons hjl
    have hx : ix kids (j : Int) = kids[j] := ix_nat hjl
    rw [hd]
    unfold pick
    cases hi : isNode (getO d kids[j]) with
    | false =>
      refine ⟨.inr (zeroR, 0, 24), .stop (if_of (by simp; omega) (need_of (by omega) (bnd_of (by rw [hx]; exact rGet_eq d _ h) (if_not (by simp) (bnd_of (rnode_eq _ (h.get _)) ?_))))), .inr rfl⟩
      rw [hi]; rfl
    | true =>
      have hf := isNode_facts hi
      simp only [if_true]
      by_cases hp : p < countO (getO d kids[j])
      · rw [if_pos hp]
        refine ⟨.inr (toR (pdown d k kids[j] p path (gvW way)).1, 0, (pdown d k kids[j] p path (gvW way)).2), .stop (if_of (by simp; omega) (need_of (by omega) (bnd_of (by rw [hx]; exact rGet_eq d _ h) (if_not (by simp) (bnd_of (rnode_eq _ (h.get _)) ?_))))), rfl⟩
        rw [hi]
        exact if_not (by simp) (if_of (decide_eq_true hp) (need_of (by omega) (bnd_of (by rw [hx]; exact hdown _ _ hi h0 hp) rfl)))
      · rw [if_neg hp]
        obtain ⟨o, h2, h3⟩ := ih (j + 1) (p - countO (getO d kids[j])) (by omega) (by omega) (by omega)
        refine ⟨o, .step (t := (p - countO (getO d kids[j]), ((j + 1 : Nat) : Int))) (if_of (by simp; omega) (need_of (by omega) (bnd_of (by rw [hx]; exact rGet_eq d _ h) (if_not (by simp) (bnd_of (rnode_eq _ (h.get _)) ?_))))) h2, h3⟩
        rw [hi]
        refine if_not (by simp) (if_not (fun hc => hp (of_decide_eq_true hc)) ?_)
        show some (Sum.inl (w64 (p - countO (getO d kids[j])), w64 ((j : Int) + 1))) = _
        rw [w64_id (by omega) (by omega), w64_id (by omega) (by omega)]
        rfl

theorem rdown_eq (d : api_Doc) (h : FewD d) : ∀ (k : Nat) (n p : Int) (path : List Int) (way : List api_Value) (fuel : Nat), path.length + k = 64 → way.length = path.length → (∀ v ∈ way, Small v) → k < fuel → isNode (getO d n) = true → 0 ≤ p → p < countO (getO d n) →
    ref20_down fuel (fileR d) n (getO d n) p path way = some (toR (pdown d k n p path (gvW way)).1, 0, (pdown d k n p path (gvW way)).2)
  | _, _, _, _, _, 0, _, _, _, h, _, _, _ => by omega
  | 0, n, p, path, way, fuel + 1, hk, _, _, _, _, _, _ => by
    rw [ref20_down]
    exact if_of (by simp; omega) rfl
  | k + 1, n, p, path, way, fuel + 1, hk, hwl, hws, hf, hi, h0, h1 => by
    have hs := h.small n
    have hfa := isNode_facts hi
    have hroom := room_ge
    have hws' : ∀ v ∈ way ++ [(getO d n).V], Small v := fun v hv => by
      rcases List.mem_append.1 hv with hv | hv
      · exact hws v hv
      · rw [List.mem_singleton.1 hv]; exact hs
    have hrec : ∀ m q, isNode (getO d m) = true → 0 ≤ q → q < countO (getO d m) → ref20_down fuel (fileR d) m (getO d m) q (path ++ [n]) (way ++ [(getO d n).V]) = some (toR (pdown d k m q (path ++ [n]) ((gvW way).give (getO d n).V)).1, 0, (pdown d k m q (path ++ [n]) ((gvW way).give (getO d n).V)).2) := by
      intro m q e1 e2 e3
      rw [rdown_eq d h k m q (path ++ [n]) (way ++ [(getO d n).V]) fuel (by simp; omega) (by simp [hwl]) hws' (by omega) e1 e2 e3, gvW_snoc]
    rw [ref20_down]
    unfold pdown
    refine if_not (by simp; omega) (need_of (by simp; omega) (need_of (by simp; omega) (need_of (by simp; omega) (need_of (by simp; omega) (bnd_of (a := (countO (getO d n), kidsO (getO d n), true)) (by rw [rnode_eq _ (h.get n), hi]; rfl) ?_)))))
    have hkl := kidsO_le (h.get n)
    by_cases hc : countO (getO d n) = ((kidsO (getO d n)).length : Int)
    · rw [if_pos hc]
      refine if_of (by simpa using hc) (need_of (by show 0 ≤ p ∧ p < ((kidsO (getO d n)).length : Int); omega) (bnd_of (rGet_eq d _ h) (if_not (by simp) (bnd_of (rtyped_p (h.small _) kPage) ?_))))
      show (if pTyped (getO d (ix (kidsO (getO d n)) p)) kPage = true then _ else _) = _
      by_cases hp : pTyped (getO d (ix (kidsO (getO d n)) p)) kPage = true
      · rw [if_pos hp, if_pos hp]
        refine need_of (by show 0 ≤ p ∧ p < ((kidsO (getO d n)).length : Int); omega) (bnd_of (given_eq _ _ (h.small _) (by simp; omega) hws') ?_)
        rw [gvW_snoc]; rfl
      · rw [if_neg hp, if_neg hp]
        have hn := rnode_eq (getO d (ix (kidsO (getO d n)) p)) (h.get _)
        by_cases hq : isNode (getO d (ix (kidsO (getO d n)) p)) = true ∧ countO (getO d (ix (kidsO (getO d n)) p)) = 1
        · rw [if_pos hq]
          rw [hq.1] at hn
          refine bnd_of (a := (countO (getO d (ix (kidsO (getO d n)) p)), kidsO (getO d (ix (kidsO (getO d n)) p)), true)) hn ?_
          refine if_not (by simp [hq.2]) (need_of (by show 0 ≤ p ∧ p < ((kidsO (getO d n)).length : Int); omega) (bnd_of (hrec _ 0 hq.1 (Int.le_refl 0) (by rw [hq.2]; decide)) rfl))
        · rw [if_neg hq]
          cases hm1 : isNode (getO d (ix (kidsO (getO d n)) p)) with
          | false =>
            rw [hm1] at hn
            exact bnd_of (a := (0, [], false)) hn (if_of rfl rfl)
          | true =>
            rw [hm1] at hn
            have hne : countO (getO d (ix (kidsO (getO d n)) p)) ≠ 1 := fun e => hq ⟨hm1, e⟩
            exact bnd_of (a := (countO (getO d (ix (kidsO (getO d n)) p)), kidsO (getO d (ix (kidsO (getO d n)) p)), true)) hn (if_of (by simpa using hne) rfl)
    · rw [if_neg hc]
      refine if_not (by simpa using hc) ?_
      obtain ⟨o, k1, k2⟩ := rpick_runs d h fuel k (kidsO (getO d n)) (by omega) (path ++ [n]) (way ++ [(getO d n).V]) (fun m q e1 e2 e3 => by rw [gvW_snoc]; exact hrec m q e1 e2 e3) (kidsO (getO d n)).length 0 p (by omega) h0 (by omega)
      rw [List.drop_zero, gvW_snoc] at k2
      have k3 := k1.iter (by omega)
      cases hpk : pick d (kidsO (getO d n)) p with
      | none =>
        rw [hpk] at k2
        rcases k2 with rfl | rfl
        · exact jnS_of (z := .inl ()) (bndS_of (z := .inl ()) k3 rfl) rfl
        · exact jnS_of (z := .inr (zeroR, 0, 24)) (bndS_of (z := .inr (zeroR, 0, 24)) k3 rfl) rfl
      | some mq =>
        obtain ⟨m, q⟩ := mq
        rw [hpk] at k2
        have k2' : o = .inr (toR (pdown d k m q (path ++ [n]) ((gvW way).give (getO d n).V)).1, 0, (pdown d k m q (path ++ [n]) ((gvW way).give (getO d n).V)).2) := k2
        subst k2'
        exact jnS_of (bndS_of k3 rfl) rfl
def fileP (d : api_Doc) : file_File := ⟨d.Root, d.Objects.length, d⟩
theorem rtop_eq (d : api_Doc) (h : FewD d) : ref20_top (fileR d) = some (if isRoot (getO d d.Root) then (if isNode (getO d (topN (fileP d))) then (topN (fileP d), getO d (topN (fileP d)), 0, 0) else (0, zeroO, 0, 24)) else (0, zeroO, 0, 23)) := by
  have hs := h.small d.Root
  unfold ref20_top
  refine bnd_of (rGet_eq d d.Root h) (if_not (by simp) (bnd_of (rget_eq hs kPages) (bnd_of (rtyped_p hs kCatalog) ?_)))
  unfold isRoot
  cases ht : pTyped (getO d d.Root) kCatalog with
  | false => rfl
  | true =>
    cases hk : ((pget (getO d d.Root).V kPages).1.Kind == 8) with
    | false => exact if_of (by simp only [bne, hk]; rfl) rfl
    | true =>
      refine if_not (by simp only [bne, hk]; decide) (bnd_of (rGet_eq d _ h) (if_not (by simp) (bnd_of (rnode_eq _ (h.get _)) ?_)))
      show _ = some (if isNode (getO d (pget (getO d d.Root).V kPages).1.N) = true then _ else _)
      cases isNode (getO d (pget (getO d d.Root).V kPages).1.N) <;> rfl
theorem fileP_get (d : api_Doc) : (fileP d).get_ = d := rfl
theorem fileP_root (d : api_Doc) : (fileP d).root_ = d.Root := rfl
theorem rtop_no (d : api_Doc) (h : FewD d) (hr : isRoot (getO d d.Root) = false) : ref20_top (fileR d) = some (0, zeroO, 0, 23) := by rw [rtop_eq d h, hr]; rfl
theorem rtop_bad (d : api_Doc) (h : FewD d) (hr : isRoot (getO d d.Root) = true) (hn : isNode (getO d (topN (fileP d))) = false) : ref20_top (fileR d) = some (0, zeroO, 0, 24) := by rw [rtop_eq d h, hr, hn]; rfl
theorem rtop_ok (d : api_Doc) (h : FewD d) (hr : isRoot (getO d d.Root) = true) (hn : isNode (getO d (topN (fileP d))) = true) : ref20_top (fileR d) = some (topN (fileP d), getO d (topN (fileP d)), 0, 0) := by rw [rtop_eq d h, hr, hn]; rfl
theorem rnode_ok (d : api_Doc) (h : FewD d) (n : Int) (hn : isNode (getO d n) = true) : ref20_Node (getO d n) = some (countO (getO d n), kidsO (getO d n), true) := by rw [rnode_eq _ (h.get n), hn]; rfl
theorem pFind_no (d : api_Doc) (p : Int) (hr : isRoot (getO d d.Root) = false) : pFind (fileP d) p = (zeroL, 23) := by unfold pFind; rw [if_neg (by simp only [fileP_get, fileP_root]; rw [hr]; decide)]
theorem pFind_bad (d : api_Doc) (p : Int) (hr : isRoot (getO d d.Root) = true) (hn : isNode (getO d (topN (fileP d))) = false) : pFind (fileP d) p = (zeroL, 24) := by
  unfold pFind; rw [if_pos (by simp only [fileP_get, fileP_root]; exact hr), if_neg (by simp only [fileP_get]; rw [hn]; decide)]
theorem pFind_ok (d : api_Doc) (p : Int) (hr : isRoot (getO d d.Root) = true) (hn : isNode (getO d (topN (fileP d))) = true) : pFind (fileP d) p = if 0 ≤ p ∧ p < countO (getO d (topN (fileP d))) then pdown d 64 (topN (fileP d)) p [] ⟨none, none, none, none⟩ else (zeroL, 25) := by
  unfold pFind; rw [if_pos (by simp only [fileP_get, fileP_root]; exact hr), if_pos (by simp only [fileP_get]; exact hn)]; rfl
theorem rfind_eq (d : api_Doc) (p : Int) (h : FewD d) : ref20_Find (fileR d) p = some (toR (pFind (fileP d) p).1, 0, (pFind (fileP d) p).2) := by
  unfold ref20_Find
  rcases Bool.eq_false_or_eq_true (isRoot (getO d d.Root)) with hr | hr
  · rcases Bool.eq_false_or_eq_true (isNode (getO d (topN (fileP d)))) with hn | hn
    · rw [pFind_ok d p hr hn]
      refine bnd_of (rtop_ok d h hr hn) (if_not (by simp) (bnd_of (rnode_ok d h _ hn) ?_))
      by_cases hp : 0 ≤ p ∧ p < countO (getO d (topN (fileP d)))
      · rw [if_pos hp]
        exact if_not (by simp; omega) (bnd_of (rdown_eq d h 64 (topN (fileP d)) p [] [] bigN rfl rfl (fun v hv => by cases hv) (by decide) hn hp.1 hp.2) rfl)
      · rw [if_neg hp]
        exact if_of (by simp; omega) rfl
    · rw [pFind_bad d p hr hn]
      exact bnd_of (rtop_bad d h hr hn) rfl
  · rw [pFind_no d p hr]
    exact bnd_of (rtop_no d h hr) rfl
end Go.AB
end

section
namespace Go.AB
open Go

theorem bytesLess_irrefl : ∀ l : List UInt8, Op.bytesLess l l = false
  | [] => rfl
  | a :: l => by
    unfold Op.bytesLess
    simp [bytesLess_irrefl l]
theorem rcompare_self : ∀ (n : Nat) (v : api_Value) (fuel : Nat), W n v → n ≤ fuel → n ≤ 1000 → ref11_Compare fuel v v = some 0
  | 0, _, _, h, _, _ => h.elim
  | n + 1, v, 0, _, h, _ => by omega
  | n + 1, v, fuel + 1, h, hf, hn => by
    have hl := h.1
    rw [ref11_Compare]
    refine if_not (by simp [bytesLess_irrefl]) (if_not (by simp) ?_)
    refine jnS_of (z := .inl ()) (bndS_of (z := .inl ()) (iter_cnt v.L.length (by omega) (fun k hk => ?_) (if_not (by simp) rfl)) rfl) (if_not (by simp) (if_not (by simp) rfl))
    exact if_of (by simp; omega) (need_of (by omega) (need_of (by omega) (bnd_of (rcompare_self n _ fuel (by rw [ix_nat hk]; exact h.2 _ (List.getElem_mem hk)) (by omega) (by omega)) rfl)))
theorem rsame_self {n : Nat} {v : api_Value} (h : W n v) (hn : n ≤ 1000) : ref11_Same v v = some true := by
  unfold ref11_Same
  rw [rcompare_self n v bigN h (by have : 1000000 ≤ bigN := by decide
                                   omega) hn]
  rfl
theorem encP_W : ∀ (G : List (Str × api_Value)), (∀ x ∈ G, W 300 x.2) → ∀ v ∈ encP G, W 300 v
  | [], _, v, hv => by cases hv
  | p :: G, h, v, hv => by
    rcases List.mem_cons.1 hv with rfl | hv
    · exact ⟨Nat.zero_le _, fun x hx => by cases hx⟩
    · rcases List.mem_cons.1 hv with rfl | hv
      · exact h p List.mem_cons_self
      · exact encP_W G (fun x hx => h x (List.mem_cons_of_mem _ hx)) v hv
theorem zero_W : W 301 zeroV := ⟨Nat.zero_le _, fun x hx => by cases hx⟩
theorem pFind_W (f : file_File) (h : FewD f.get_) (p : Int) : W 301 (pFind f p).1.Given ∧ (pFind f p).1.Path.length ≤ 64 := by
  unfold pFind
  split
  · split
    · split
      · rename_i hp
        rcases pdown_ok 64 (topN f) p [] ⟨none, none, none, none⟩ hp.1 hp.2 with ⟨_, e⟩ | ⟨way, m, e1, e2, e3⟩
        · rw [e]; exact ⟨zero_W, Nat.zero_le _⟩
        · rw [e3]
          refine ⟨⟨?_, ?_⟩, e1⟩
          · have := Gv.len ((giveAll f.get_ ⟨none, none, none, none⟩ (topN f :: way)).leave (getO f.get_ m).V)
            show (encP _).length ≤ 300
            rw [encP_len]; omega
          · refine encP_W _ fun x hx => ?_
            obtain ⟨_, hl⟩ := given_L hx
            have hx2 := lastV_eq f.get_ x.1 _ none zeroV x.2 (fun y hy => by cases hy) hl
            rw [← hx2]
            exact lastV_W h _ _ _ ⟨Nat.zero_le _, fun x hx => by cases hx⟩
      · exact ⟨zero_W, Nat.zero_le _⟩
    · exact ⟨zero_W, Nat.zero_le _⟩
  · exact ⟨zero_W, Nat.zero_le _⟩
theorem rleaf_same (l : ref20_Leaf) (h : W 301 l.Given) (hl : l.Path.length ≤ 64) : ref20_Same l l = some true := by
  unfold ref20_Same
  have e : ((l.Page != l.Page) || ((l.Path.length : Int) != (l.Path.length : Int))) = false := by simp
  rw [e]
  refine bnd_of (a := true) (rsame_self h (by decide)) (if_not (by decide) ?_)
  refine jnS_of (z := .inl ()) (bndS_of (z := .inl ()) (iter_cnt l.Path.length (by omega) (fun k hk => ?_) (if_not (by simp) rfl)) rfl) rfl
  exact if_of (by simp; omega) (need_of (by omega) (need_of (by omega) (if_not (by simp) rfl)))

theorem law20_TreeFinds_true (d : api_Doc) (p : Int) : law20_TreeFinds d p = some true := by
  obtain ⟨b, h1, h2⟩ := few_all d.Objects 80 (by decide)
  unfold law20_TreeFinds
  refine bnd_of h1 ?_
  cases b with
  | false => exact if_of rfl (bnd_of law20_works_true rfl)
  | true =>
    obtain ⟨h3, h4⟩ := h2 rfl
    have hd : FewD d := ⟨by omega, h4⟩
    obtain ⟨hw, hp⟩ := pFind_W (fileP d) hd p
    refine if_not (by decide) (bnd_of (a := fileP d) rfl (bnd_of (find_eq (fileP d) p hd) (bnd_of (a := fileR d) rfl (bnd_of (rfind_eq d p hd) (bnd_of (a := toR (pFind (fileP d) p).1) rfl (bnd_of (rleaf_same _ hw hp) ?_))))))
    have e : ((true && ((0 : Int) == 0)) && ((pFind (fileP d) p).2 == (pFind (fileP d) p).2)) = true := by simp
    show bnd (whenB ((true && ((0 : Int) == 0)) && ((pFind (fileP d) p).2 == (pFind (fileP d) p).2)) false law20_works) _ = _
    rw [e]
    exact bnd_of law20_works_true rfl

/-- How many pages, or the error. -/
def pPages (f : file_File) : Int × Int :=
  if isRoot (getO f.get_ f.root_) = true then (if isNode (getO f.get_ (topN f)) = true then (countO (getO f.get_ (topN f)), 0) else (0, 24)) else (0, 23)
theorem pages_eq (f : file_File) (h : FewD f.get_) : tree_Pages f = some ((pPages f).1, 0, (pPages f).2) := by
  unfold tree_Pages
  refine bnd_of (top_eq f h) ?_
  unfold pPages
  cases isRoot (getO f.get_ f.root_) with
  | false => rfl
  | true => cases isNode (getO f.get_ (topN f)) <;> rfl
theorem rpages_eq (d : api_Doc) (h : FewD d) : ref20_Pages (fileR d) = some ((pPages (fileP d)).1, 0, (pPages (fileP d)).2) := by
  unfold ref20_Pages
  rcases Bool.eq_false_or_eq_true (isRoot (getO d d.Root)) with hr | hr
  · rcases Bool.eq_false_or_eq_true (isNode (getO d (topN (fileP d)))) with hn | hn
    · have e : pPages (fileP d) = (countO (getO d (topN (fileP d))), 0) := by
        unfold pPages; rw [if_pos (by simp only [fileP_get, fileP_root]; exact hr), if_pos (by simp only [fileP_get]; exact hn)]; rfl
      rw [e]
      exact bnd_of (rtop_ok d h hr hn) (if_not (by simp) (bnd_of (rnode_ok d h _ hn) rfl))
    · have e : pPages (fileP d) = (0, 24) := by
        unfold pPages; rw [if_pos (by simp only [fileP_get, fileP_root]; exact hr), if_neg (by simp only [fileP_get]; rw [hn]; decide)]
      rw [e]
      exact bnd_of (rtop_bad d h hr hn) rfl
  · have e : pPages (fileP d) = (0, 23) := by
      unfold pPages; rw [if_neg (by simp only [fileP_get, fileP_root]; rw [hr]; decide)]
    rw [e]
    exact bnd_of (rtop_no d h hr) rfl
theorem pPages_le (f : file_File) : (pPages f).1 ≤ 2048 := by
  unfold pPages
  split
  · split
    · rename_i h; exact (isNode_facts h).2.2
    · decide
  · decide
/-- All leaves, or the first error. -/
def rl (f : file_File) : Nat → Nat → List tree_Leaf → List tree_Leaf ⊕ Int
  | 0, _, out => .inl out
  | r + 1, k, out => if (pFind f (k : Int)).2 ≠ 0 then .inr (pFind f (k : Int)).2 else rl f r (k + 1) (out ++ [(pFind f (k : Int)).1])
theorem room_big : 1000000 ≤ room := by decide
def leavesRes : List tree_Leaf ⊕ Int → List tree_Leaf ⊕ (List tree_Leaf × Int × Int)
  | .inl out => .inl out
  | .inr e => .inr ([], 0, e)
theorem leaves_runs (f : file_File) (h : FewD f.get_) (n : Nat) (hn : n ≤ 2048) : ∀ (r k : Nat) (out : List tree_Leaf), k + r = n → out.length = k →
    Runs (fun ((out8, t9) : (List tree_Leaf) × Int) =>
          if decide (t9 < (n : Int)) then
            bnd (tree_Find f t9) fun r16 =>
            if r16.2.2 != 0 then
              some (.inr (.inr (([] : List tree_Leaf), r16.2.1, r16.2.2)))
            else
              need ((out8.length + [r16.1].length) * 88 ≤ room) <|
              some (.inl (out8 ++ [r16.1], w64 (t9 + 1)))
          else
            some (.inr (.inl out8))) (r + 1) (out, (k : Int)) (leavesRes (rl f r k out))
  | 0, k, out, hk, _ => .stop (if_not (by simp; omega) rfl)
  | r + 1, k, out, hk, ho => by
    have hroom := room_big
    unfold rl
    by_cases he : (pFind f (k : Int)).2 ≠ 0
    · rw [if_pos he]
      exact .stop (if_of (by simp; omega) (bnd_of (find_eq f (k : Int) h) (if_of (by simpa using he) rfl)))
    · rw [if_neg he]
      refine .step (t := (out ++ [(pFind f (k : Int)).1], ((k + 1 : Nat) : Int))) (if_of (by simp; omega) (bnd_of (find_eq f (k : Int) h) (if_not (by simpa using he) (need_of (by simp; omega) ?_)))) (leaves_runs f h n hn r (k + 1) _ (by omega) (by simp; omega))
      rw [w64_id (by omega) (by omega)]; rfl
def rleavesRes : List tree_Leaf ⊕ Int → List ref20_Leaf ⊕ (List ref20_Leaf × Int × Int)
  | .inl out => .inl (out.map toR)
  | .inr e => .inr ([], 0, e)
theorem rleaves_runs (d : api_Doc) (h : FewD d) (n : Nat) (hn : n ≤ 2048) : ∀ (r k : Nat) (out : List tree_Leaf), k + r = n → out.length = k →
    Runs (fun ((out6, p7) : (List ref20_Leaf) × Int) =>
          if decide (p7 < (n : Int)) then
            bnd (ref20_Find (fileR d) p7) fun r12 =>
            if r12.2.2 != 0 then
              some (.inr (.inr (([] : List ref20_Leaf), r12.2.1, r12.2.2)))
            else
              need ((out6.length + [r12.1].length) * 88 ≤ room) <|
              some (.inl (out6 ++ [r12.1], w64 (p7 + 1)))
          else
            some (.inr (.inl out6))) (r + 1) (out.map toR, (k : Int)) (rleavesRes (rl (fileP d) r k out))
  | 0, k, out, hk, _ => .stop (if_not (by simp; omega) rfl)
  | r + 1, k, out, hk, ho => by
    have hroom := room_big
    unfold rl
    by_cases he : (pFind (fileP d) (k : Int)).2 ≠ 0
    · rw [if_pos he]
      exact .stop (if_of (by simp; omega) (bnd_of (rfind_eq d (k : Int) h) (if_of (by simpa using he) rfl)))
    · rw [if_neg he]
      refine .step (t := ((out ++ [(pFind (fileP d) (k : Int)).1]).map toR, ((k + 1 : Nat) : Int))) (if_of (by simp; omega) (bnd_of (rfind_eq d (k : Int) h) (if_not (by simpa using he) (need_of (by simp; omega) ?_)))) (rleaves_runs d h n hn r (k + 1) _ (by omega) (by simp; omega))
      rw [w64_id (by omega) (by omega), List.map_append]; rfl
theorem rl_W (f : file_File) (h : FewD f.get_) : ∀ (r k : Nat) (out l : List tree_Leaf), (∀ x ∈ out, W 301 x.Given ∧ x.Path.length ≤ 64) → rl f r k out = .inl l → (∀ x ∈ l, W 301 x.Given ∧ x.Path.length ≤ 64) ∧ l.length ≤ out.length + r
  | 0, _, out, l, ho, e => by injection e with e; subst e; exact ⟨ho, by omega⟩
  | r + 1, k, out, l, ho, e => by
    unfold rl at e
    split at e
    · cases e
    · obtain ⟨h1, h2⟩ := rl_W f h r (k + 1) _ l (fun x hx => by
        rcases List.mem_append.1 hx with hx | hx
        · exact ho x hx
        · rw [List.mem_singleton.1 hx]; exact pFind_W f h _) e
      exact ⟨h1, by simp at h2; omega⟩
def pLeaves (f : file_File) : List tree_Leaf × Int :=
  if (pPages f).2 ≠ 0 then ([], (pPages f).2) else match rl f (pPages f).1.toNat 0 [] with | .inl l => (l, 0) | .inr e => ([], e)
theorem leaves_eq (f : file_File) (h : FewD f.get_) : tree_Leaves f = some ((pLeaves f).1, 0, (pLeaves f).2) := by
  unfold tree_Leaves
  refine bnd_of (pages_eq f h) ?_
  unfold pLeaves
  by_cases he : (pPages f).2 ≠ 0
  · rw [if_pos he]; exact if_of (by simpa using he) rfl
  · rw [if_neg he]
    refine if_not (by simpa using he) ?_
    have h0 : 0 ≤ (pPages f).1 := by
      unfold pPages
      split
      · split
        · rename_i hh; have := isNode_facts hh; omega
        · decide
      · decide
    obtain ⟨n, hn⟩ : ∃ n : Nat, (pPages f).1 = (n : Int) := ⟨(pPages f).1.toNat, by omega⟩
    have hle := pPages_le f
    rw [hn, Int.toNat_natCast]
    have hr := (leaves_runs f h n (by omega) n 0 [] (by omega) rfl).iter (by omega)
    cases hrl : rl f n 0 [] with
    | inl l =>
      rw [hrl] at hr
      exact jnS_of (bndS_of hr rfl) rfl
    | inr e =>
      rw [hrl] at hr
      exact jnS_of (bndS_of hr rfl) rfl
theorem rleaves_eq (d : api_Doc) (h : FewD d) : ref20_Leaves (fileR d) = some ((pLeaves (fileP d)).1.map toR, 0, (pLeaves (fileP d)).2) := by
  unfold ref20_Leaves
  refine bnd_of (rpages_eq d h) ?_
  unfold pLeaves
  by_cases he : (pPages (fileP d)).2 ≠ 0
  · rw [if_pos he]; exact if_of (by simpa using he) rfl
  · rw [if_neg he]
    refine if_not (by simpa using he) ?_
    have h0 : 0 ≤ (pPages (fileP d)).1 := by
      unfold pPages
      split
      · split
        · rename_i hh; have := isNode_facts hh; omega
        · decide
      · decide
    obtain ⟨n, hn⟩ : ∃ n : Nat, (pPages (fileP d)).1 = (n : Int) := ⟨(pPages (fileP d)).1.toNat, by omega⟩
    have hle := pPages_le (fileP d)
    rw [hn, Int.toNat_natCast]
    have hr := (rleaves_runs d h n (by omega) n 0 [] (by omega) rfl).iter (by omega)
    cases hrl : rl (fileP d) n 0 [] with
    | inl l =>
      rw [hrl] at hr
      exact jnS_of (bndS_of hr rfl) rfl
    | inr e =>
      rw [hrl] at hr
      exact jnS_of (bndS_of hr rfl) rfl
theorem pLeaves_W (f : file_File) (h : FewD f.get_) : (∀ x ∈ (pLeaves f).1, W 301 x.Given ∧ x.Path.length ≤ 64) ∧ (pLeaves f).1.length ≤ 2048 := by
  unfold pLeaves
  split
  · exact ⟨fun x hx => (by cases hx), Nat.zero_le _⟩
  · cases e : rl f (pPages f).1.toNat 0 [] with
    | inr e => exact ⟨fun x hx => (by cases hx), Nat.zero_le _⟩
    | inl l =>
      obtain ⟨h1, h2⟩ := rl_W f h _ _ _ l (fun x hx => by cases hx) e
      have := pPages_le f
      exact ⟨h1, by simp at h2; show l.length ≤ 2048; omega⟩
theorem law20_TreeAll_true (d : api_Doc) : law20_TreeAll d = some true := by
  obtain ⟨b, h1, h2⟩ := few_all d.Objects 80 (by decide)
  unfold law20_TreeAll
  refine bnd_of h1 ?_
  cases b with
  | false => exact if_of rfl (bnd_of law20_works_true rfl)
  | true =>
    obtain ⟨h3, h4⟩ := h2 rfl
    have hd : FewD d := ⟨by omega, h4⟩
    obtain ⟨hw, hll⟩ := pLeaves_W (fileP d) hd
    refine if_not (by decide) (bnd_of (a := fileP d) rfl (bnd_of (pages_eq (fileP d) hd) (bnd_of (a := fileR d) rfl (bnd_of (rpages_eq d hd) (if_not (by simp) ?_)))))
    refine bnd_of (a := fileP d) rfl (bnd_of (leaves_eq (fileP d) hd) (bnd_of (a := fileR d) rfl (bnd_of (rleaves_eq d hd) (if_not (by simp) ?_))))
    refine jnS_of (z := .inl ()) (bndS_of (z := .inl ()) (iter_cnt (pLeaves (fileP d)).1.length (by omega) (fun k hk => ?_) (if_not (by simp) rfl)) rfl) (bnd_of law20_works_true rfl)
    obtain ⟨q1, q2⟩ := hw _ (List.getElem_mem hk)
    have hx : ix (pLeaves (fileP d)).1 (k : Int) = (pLeaves (fileP d)).1[k] := ix_nat hk
    have hy : ix ((pLeaves (fileP d)).1.map toR) (k : Int) = toR (pLeaves (fileP d)).1[k] := by
      rw [ix_nat (by simpa using hk)]; simp
    refine if_of (by simp; omega) (need_of (by show 0 ≤ (k : Int) ∧ (k : Int) < ((pLeaves (fileP d)).1.length : Int); omega) (bnd_of (a := toR (pLeaves (fileP d)).1[k]) (by unfold law20_of; show some (toR (ix (pLeaves (fileP d)).1 (k : Int))) = _; rw [hx]) (need_of (by show 0 ≤ (k : Int) ∧ (k : Int) < (((pLeaves (fileP d)).1.map toR).length : Int); simp; omega) (bnd_of (a := true) ?_ rfl))))
    show ref20_Same _ (ix ((pLeaves (fileP d)).1.map toR) (k : Int)) = _
    rw [hy]
    exact rleaf_same _ q1 q2
end Go.AB
end

section
namespace Go.AB
open Go Go.RowKit Go.ChangeShapes Go.WideShapes

/-- At a law's start: so many first cells of each block never change. -/
def bigR (N : Nat) (w : World) (b : Nat) : Nat := if b < w.heap.size then N else 0

theorem law_calls' {P : Program} {w : World} {f : FuncId} {args : List AV} {vs : Array Value} (N : Nat) (hf : FN P f args noStore fun rs _ => rs = [.bool true]) (ha : ArgsR w (bigR N w) args vs) :
    Calls P f vs w fun e w' => e = .returned (.bool true) ∧ Below w.heap.size w w' := by
  refine (hf ⟨bigR N w, fun _ => .none⟩ w vs ⟨fun _ _ => rfl, fun b hb => ?_⟩ (fun b => .inl rfl) (fun b o h => by cases h) ha).mono fun e w' ⟨v, rs, s', G', he, hq, _, _, hr, hp⟩ => ?_
  · show bigR N w b = 0
    unfold bigR
    rw [if_neg (by omega)]
  · subst hq
    refine ⟨?_, ⟨hp.os, hp.tape, hp.output, hp.size, fun b hb => hp.frame b hb (.inr rfl)⟩⟩
    rw [he]
    have := VR.inv_bool hr.1
    rw [this]

def VRs (w : World) (R : Nat → Nat) (as1 : List AV) (cs : List Value) : Prop := cs.length = as1.length ∧ ∀ (j : Nat) (a : AV) (v : Value), as1[j]? = some a → cs[j]? = some v → VR w R a v

theorem VRs.one {w : World} {R : Nat → Nat} {a : AV} {v : Value} (h : VR w R a v) : VRs w R [a] [v] := by
  refine ⟨rfl, fun j a' v' h1 h2 => ?_⟩
  cases j with
  | zero => cases h1; cases h2; exact h
  | succ j => simp at h1
theorem VRs.append {w : World} {R : Nat → Nat} {as1 bs : List AV} {cs ds : List Value} (h : VRs w R as1 cs) (k : VRs w R bs ds) : VRs w R (as1 ++ bs) (cs ++ ds) := by
  refine ⟨by rw [List.length_append, List.length_append, h.1, k.1], fun j a v h1 h2 => ?_⟩
  rcases Nat.lt_or_ge j as1.length with hj | hj
  · rw [List.getElem?_append_left hj] at h1
    rw [List.getElem?_append_left (by rw [h.1]; exact hj)] at h2
    exact h.2 j a v h1 h2
  · rw [List.getElem?_append_right hj] at h1
    rw [List.getElem?_append_right (by rw [h.1]; exact hj), h.1] at h2
    exact k.2 _ a v h1 h2

/-- What cells of a Go type read as: values of a Lean type. -/
def OpensC (P : Program) (t : TypeId) {α : Type} (n : Nat) (C : α → List AV) (wf : α → Prop) : Prop :=
  ∀ (H : Type) (enc : TypeId × Value → H) (w : World) (fuel : Nat) (cs : List Value) (x : DataW H × List MemPlace), DataW.trod enc P w 0 (fun _ => true) true fuel t cs = some x →
    cs.length = n ∧ ∃ a : α, wf a ∧ Fl (C a) ∧ ∃ N0, ∀ N, N0 ≤ N → VRs w (bigR N w) (C a) cs
def Opens (P : Program) (t : TypeId) (α : Type) [Enc α] (wf : α → Prop) : Prop := OpensC P t (Enc.w α) (Enc.cells : α → List AV) wf

section
variable {P : Program} {t : TypeId}
theorem fl_one {a : AV} (h : flatV a = true) : Fl [a] := by
  intro c hc
  rw [List.mem_singleton] at hc; rw [hc]; exact h

theorem opens_bool (ht : P.underlying t = some .bool) : Opens P t Bool fun _ => True := by
  intro H enc w fuel cs x h
  obtain ⟨b, rfl, _⟩ := DataW.trod_bool ht h
  exact ⟨rfl, b, trivial, fl_one rfl, 0, fun N _ => VRs.one (.bool b)⟩
theorem opens_int (ht : P.underlying t = some (.int .i64)) : Opens P t Int fun n => -9223372036854775808 ≤ n ∧ n ≤ 9223372036854775807 := by
  intro H enc w fuel cs x h
  obtain ⟨n, rfl, _, hw⟩ := DataW.trod_int ht h
  refine ⟨rfl, n, ?_, fl_one rfl, 0, fun N _ => VRs.one (.int _ n)⟩
  simpa [Lit.wf, IntKind.min, IntKind.max, IntKind.signed, IntKind.bits] using hw
theorem opens_u8 (ht : P.underlying t = some (.int .u8)) : Opens P t UInt8 fun _ => True := by
  intro H enc w fuel cs x h
  obtain ⟨n, rfl, _, hw⟩ := DataW.trod_int ht h
  have hb : 0 ≤ n ∧ n ≤ 255 := by simpa [Lit.wf, IntKind.min, IntKind.max, IntKind.signed, IntKind.bits] using hw
  refine ⟨rfl, UInt8.ofNat n.toNat, trivial, fl_one rfl, 0, fun N _ => ?_⟩
  have e : ((UInt8.ofNat n.toNat).toNat : Int) = n := by
    rw [UInt8.toNat_ofNat']; omega
  show VRs _ _ [.int .u8 ((UInt8.ofNat n.toNat).toNat : Int)] _
  rw [e]
  exact VRs.one (.int _ n)
theorem opens_u32 (ht : P.underlying t = some (.int .u32)) : Opens P t UInt32 fun _ => True := by
  intro H enc w fuel cs x h
  obtain ⟨n, rfl, _, hw⟩ := DataW.trod_int ht h
  have hb : 0 ≤ n ∧ n ≤ 4294967295 := by simpa [Lit.wf, IntKind.min, IntKind.max, IntKind.signed, IntKind.bits] using hw
  refine ⟨rfl, UInt32.ofNat n.toNat, trivial, fl_one rfl, 0, fun N _ => ?_⟩
  have e : ((UInt32.ofNat n.toNat).toNat : Int) = n := by
    rw [UInt32.toNat_ofNat']; omega
  show VRs _ _ [.int .u32 ((UInt32.ofNat n.toNat).toNat : Int)] _
  rw [e]
  exact VRs.one (.int _ n)
theorem opens_u64 (ht : P.underlying t = some (.int .u64)) : Opens P t UInt64 fun _ => True := by
  intro H enc w fuel cs x h
  obtain ⟨n, rfl, _, hw⟩ := DataW.trod_int ht h
  have hb : 0 ≤ n ∧ n ≤ 18446744073709551615 := by simpa [Lit.wf, IntKind.min, IntKind.max, IntKind.signed, IntKind.bits] using hw
  refine ⟨rfl, UInt64.ofNat n.toNat, trivial, fl_one rfl, 0, fun N _ => ?_⟩
  have e : ((UInt64.ofNat n.toNat).toNat : Int) = n := by
    rw [UInt64.toNat_ofNat']; omega
  show VRs _ _ [.int .u64 ((UInt64.ofNat n.toNat).toNat : Int)] _
  rw [e]
  exact VRs.one (.int _ n)
theorem opens_str (ht : P.underlying t = some .string) : Opens P t Str fun s => s.b.length ≤ maxLen := by
  intro H enc w fuel cs x h
  obtain ⟨s, rfl, _, hs⟩ := DataW.trod_string ht h
  refine ⟨rfl, ⟨s.data.toList⟩, by simpa using hs, fl_one rfl, 0, fun N _ => ?_⟩
  have := VR.str (w := w) (R := bigR N w) s.data.toList
  exact VRs.one this

theorem choose_list {α : Type} {Q : Nat → α → Prop} : ∀ n : Nat, (∀ i, i < n → ∃ a, Q i a) → ∃ l : List α, l.length = n ∧ ∀ (i : Nat) (a : α), l[i]? = some a → Q i a
  | 0, _ => ⟨[], rfl, fun i a h => by simp at h⟩
  | n + 1, h => by
    obtain ⟨l, h1, h2⟩ := choose_list n fun i hi => h i (by omega)
    obtain ⟨a, ha⟩ := h n (by omega)
    refine ⟨l ++ [a], by simp [h1], fun i x hx => ?_⟩
    rcases Nat.lt_or_ge i n with hi | hi
    · rw [List.getElem?_append_left (by omega)] at hx; exact h2 i x hx
    · rw [List.getElem?_append_right (by omega)] at hx
      have : i = n := by
        have := (List.getElem?_eq_some_iff.1 hx).1
        simp at this; omega
      subst this
      rw [h1, Nat.sub_self] at hx
      injection hx with hx; rw [← hx]; exact ha
theorem common {Q : Nat → Nat → Prop} : ∀ n : Nat, (∀ i, i < n → ∃ N0, ∀ N, N0 ≤ N → Q i N) → ∃ N0, ∀ N, N0 ≤ N → ∀ i, i < n → Q i N
  | 0, _ => ⟨0, fun _ _ i h => absurd h (Nat.not_lt_zero i)⟩
  | n + 1, h => by
    obtain ⟨a, ha⟩ := common n fun i hi => h i (by omega)
    obtain ⟨b, hb⟩ := h n (by omega)
    refine ⟨max a b, fun N hN i hi => ?_⟩
    rcases Nat.lt_or_ge i n with h1 | h1
    · exact ha N (by omega) i h1
    · have : i = n := by omega
      rw [this]; exact hb N (by omega)

theorem flat_get {α : Type} [Enc α] (l : List α) {i r : Nat} {a : α} (hi : l[i]? = some a) (hr : r < Enc.w α) : (flat l)[i * Enc.w α + r]? = (Enc.cells a)[r]? := by
  have h1 := flat_sub l (Enc.w α) i 1 rfl
  obtain ⟨hlt, he⟩ := List.getElem?_eq_some_iff.1 hi
  have h2 : (l.drop i).take 1 = [a] := by rw [List.drop_eq_getElem_cons hlt, he]; rfl
  rw [h2, flat_cons, flat_nil, List.append_nil, Nat.one_mul] at h1
  rw [← h1]
  unfold AB.sub
  rw [List.getElem?_take, if_pos hr, List.getElem?_drop]

/-- A slice of them, as an argument. -/
theorem open_slice {H : Type} {enc : TypeId × Value → H} {w : World} {e : TypeId} {α : Type} [Enc α] {wf : α → Prop} {b0 : Nat} {v : Value} {d : DataW H} {ps : List MemPlace}
    (ht : P.underlying t = some (.slice e)) (hc : P.cellsOf e = Enc.w α) (he : Opens P e α wf) (hval : Value.okWide P w .any b0 t v) (h : DataW.Trod enc P w 0 (fun _ => true) true t v d ps) :
    ∃ l : List α, l.length ≤ maxLen ∧ (∀ a ∈ l, wf a) ∧ ∃ N0, ∀ N, N0 ≤ N → VR w (bigR N w) (.sl false (Enc.w α) l.length (flat l)) v := by
  have hv : v = .slice none 0 0 ∨ ∃ a len cap, v = .slice (some a) len cap ∧ w.has P .any b0 a e cap := by
    unfold Value.okWide Cell.okWide Cell.ok at hval
    rw [ht] at hval
    dsimp only at hval
    split at hval <;> simp_all
    exact ⟨_, _, _, ⟨rfl, rfl, rfl⟩, hval.2.2⟩
  obtain ⟨fuel, hf⟩ := h
  rcases hv with rfl | ⟨a, len, cap, rfl, hhas⟩
  · exact ⟨[], Nat.zero_le _, (fun _ h => absurd h List.not_mem_nil), 0, fun N _ => .slnil _ _⟩
  · obtain ⟨_, hsp, row, cells, hsh, _⟩ := hhas
    obtain ⟨b, off, spot⟩ := a
    simp only at hsp hsh
    subst hsp
    have hb : b < w.heap.size := by
      rcases Nat.lt_or_ge b w.heap.size with h | h
      · exact h
      · unfold World.shape? at hsh
        rw [Array.getElem?_eq_none h] at hsh
        cases hsh
    rcases DataW.trod_slice ht hf with ⟨h0, _⟩ | ⟨a, len', cap', elems, rest, n, _, hcs, _, _, hl, hm, hlen, hel, _⟩
    · simp [Value.cells] at h0
    · have hcs' : (a = ⟨b, off, none⟩ ∧ len' = len) ∧ cap' = cap := by
        simp [Value.cells] at hcs
        exact ⟨⟨hcs.1.symm, hcs.2.1.symm⟩, hcs.2.2.symm⟩
      obtain ⟨⟨rfl, rfl⟩, rfl⟩ := hcs'
      have each : ∀ i, i < len' → ∃ x : α × List Value, wf x.1 ∧ Fl (Enc.cells x.1) ∧ w.cells? 0 ((⟨b, off, none⟩ : Addr).add (i * Enc.w α)) (Enc.w α) = some x.2 ∧ ∃ N0, ∀ N, N0 ≤ N → VRs w (bigR N w) (Enc.cells x.1) x.2 := by
        intro i hi
        have h1 := hel i hi
        rw [hc, List.getElem?_eq_getElem (by omega), Option.bind_eq_some_iff] at h1
        obtain ⟨cs, h2, h3⟩ := h1
        obtain ⟨_, x, h4, h5, h6⟩ := he H enc w n cs _ h3
        exact ⟨(x, cs), h4, h5, h2, h6⟩
      obtain ⟨L, hL, hQ⟩ := choose_list len' each
      have hx : ∀ i, i < len' → ∃ x, L[i]? = some x := fun i hi => ⟨L[i]'(by omega), List.getElem?_eq_getElem (by omega)⟩
      obtain ⟨N0, hN0⟩ := common (Q := fun i N => ∀ x, L[i]? = some x → VRs w (bigR N w) (Enc.cells x.1) x.2) len' fun i hi => by
        obtain ⟨x, hx⟩ := hx i hi
        obtain ⟨_, _, _, N0, h⟩ := hQ i x hx
        exact ⟨N0, fun N hN y hy => by rw [hx] at hy; cases hy; exact h N hN⟩
      have hwf : ∀ a ∈ L.map (·.1), wf a ∧ Fl (Enc.cells a) := by
        intro a ha
        obtain ⟨x, hx, rfl⟩ := List.mem_map.1 ha
        obtain ⟨i, hi⟩ := List.getElem?_of_mem hx
        have := hQ i x hi
        exact ⟨this.1, this.2.1⟩
      have hget : ∀ (j : Nat) (c : AV), (flat (L.map (·.1)))[j]? = some c → ∃ v, w.cell? ⟨b, off + j, none⟩ = some v ∧ ∀ N, N0 ≤ N → VR w (bigR N w) c v := by
        intro j c hj
        have hw : 0 < Enc.w α := Enc.pos
        have hjl := (List.getElem?_eq_some_iff.1 hj).1
        rw [flat_len, List.length_map, hL] at hjl
        have hi : j / Enc.w α < len' := Nat.div_lt_of_lt_mul (by rw [Nat.mul_comm]; exact hjl)
        have hr : j % Enc.w α < Enc.w α := Nat.mod_lt _ hw
        have hje : j = j / Enc.w α * Enc.w α + j % Enc.w α := by rw [Nat.mul_comm]; exact (Nat.div_add_mod _ _).symm
        obtain ⟨x, hx⟩ := hx _ hi
        have h1 := flat_get (L.map (·.1)) (i := j / Enc.w α) (a := x.1) (by rw [List.getElem?_map, hx]; rfl) hr
        rw [← hje, hj] at h1
        obtain ⟨_, _, h2, _⟩ := hQ _ x hx
        obtain ⟨_, h3, h4⟩ := World.cells?_some h2
        have h5 := h4 _ hr
        rw [add_plain, add_plain, Nat.add_assoc, ← hje] at h5
        refine ⟨x.2[j % Enc.w α]'(by omega), by rw [h5, List.getElem?_eq_getElem], fun N hN => ?_⟩
        exact (hN0 N hN _ hi x hx).2 _ _ _ h1.symm (List.getElem?_eq_getElem _)
      refine ⟨L.map (·.1), by rw [List.length_map, hL]; omega, fun a ha => (hwf a ha).1, max N0 (off + len' * Enc.w α), fun N hN => ?_⟩
      rw [List.length_map, hL]
      refine .sl false (Enc.w α) len' _ b off cap' (fun j => (w.cell? ⟨b, off + j, none⟩).getD default) ?_ ?_ ?_ hl ?_ ?_
      · intro c hcm
        unfold flat at hcm
        obtain ⟨l, hl, hcl⟩ := List.mem_flatten.1 hcm
        obtain ⟨a, ha, rfl⟩ := List.mem_map.1 hl
        exact (hwf a ha).2 c hcl
      · rw [flat_len, List.length_map, hL]
      · rw [flat_len, List.length_map, hL]
        unfold bigR
        rw [if_pos hb]; omega
      · intro j c hj
        obtain ⟨v, h1, _⟩ := hget j c hj
        rw [h1]; rfl
      · intro j c hj
        obtain ⟨v, h1, h2⟩ := hget j c hj
        simp only [h1, Option.getD_some]; exact h2 N (by omega)
end
end Go.AB
end

section
namespace Go.AB
open Go Go.RowKit Go.ChangeShapes Go.WideShapes

section
variable {P : Program}

theorem trodAll_below {H : Type} {enc : TypeId × Value → H} (hl : laidOutB P = true) {W W' : World} (hb : Below W.heap.size W W') :
    ∀ {ts : List TypeId} {vs : List Value} {ds : List (DataW H)} {ps : List MemPlace}, (∀ t ∈ ts, P.readableRec t = true ∧ t < P.types.size) → DataW.TrodAll enc P W 0 (fun _ => true) true ts vs ds ps →
      DataW.TrodAll enc P W' 0 (fun b => decide (b < W.heap.size)) true ts vs ds ps
  | [], [], [], _, _, h => h
  | t :: ts, v :: vs, d :: ds, _, hr, h => by
    have hlt := h.lt
    obtain ⟨p, q, h1, h2, rfl⟩ := h
    have ht := hr t List.mem_cons_self
    exact ⟨p, q, Below.trod hl ht.1 ht.2 h1 hb fun x hx => hlt x (List.mem_append_left _ hx), trodAll_below hl hb (fun t ht => hr t (List.mem_cons_of_mem _ ht)) h2, rfl⟩
  | [], _ :: _, _, _, _, h => h.elim
  | [], [], _ :: _, _, _, h => h.elim
  | _ :: _, [], _, _, _, h => h.elim
  | _ :: _, _ :: _, [], _, _, h => h.elim

/-- What a law's row asks, once its call returns true and turns nothing that was there. -/
theorem law_post {H : Type} {enc : TypeId × Value → H} {fn : Func} {s : ChangeSpec} {f : FuncId} {W : World} {args : Array Value} {ds gs : List (DataW H)} {before : List MemPlace} {tb : TypeId}
    (hvars : s.vars = []) (hres : fn.resultTypes = #[tb]) (htb : P.underlying tb = some .bool) (hl : laidOutB P = true) (hr : ∀ t ∈ fn.params.toList, P.readableRec t = true ∧ t < P.types.size)
    (hspec : ∀ ds : List (DataW H), ds.length = fn.params.toList.length → s.fn H ds = { results := [.lit (.bool true)], args := ds })
    (hW : DataW.Whole enc P fn.params.toList s.vars false W args.toList ds gs before)
    (hc : Calls P f args W fun e w' => e = .returned (.bool true) ∧ Below W.heap.size W w') :
    Calls P f args W fun e W' => ∃ v, e = .returned v ∧ s.post enc P fn false true false false W args v W' := by
  refine hc.mono fun e W' ⟨he, hb⟩ => ⟨.bool true, he, ?_⟩
  have hW' := hW
  obtain ⟨p, q, hA, hV, rfl, hfz, hnd⟩ := hW
  rw [hvars] at hV
  obtain ⟨rfl, rfl⟩ := trodVars_none hV
  have hs := hspec ds (trodAll_length hA).2
  refine ⟨ds, [], _, [], p, [], hW', ?_, ?_, ?_, ?_, fun h => by cases h⟩
  · rw [List.append_nil, hs, hres]
    exact trodAll_mk1 (shut_bool htb true)
  · rw [List.append_nil, hs]
    exact trodAll_below hl hb hr hA
  · rw [List.append_nil, hs, hvars]
    exact rfl
  · exact World.keptBut_mono (fun p hp => hp.elim) (hb.frame fun _ => False)

/-! Products. -/
def OpensF (P : Program) (fs : List (TypeId × Nat)) (o : Nat) {α : Type} (n : Nat) (C : α → List AV) (wf : α → Prop) : Prop :=
  ∀ (H : Type) (enc : TypeId × Value → H) (w : World) (fuel : Nat) (cs : List Value), (∀ f ∈ fs, ∃ x, DataW.trod enc P w 0 (fun _ => true) true fuel f.1 ((cs.drop f.2).take (P.cellsOf f.1)) = some x) →
    ∃ a : α, wf a ∧ Fl (C a) ∧ ∃ N0, ∀ N, N0 ≤ N → VRs w (bigR N w) (C a) ((cs.drop o).take n)

theorem opensF_nil {o : Nat} : OpensF P [] o 0 (fun _ : Unit => []) fun _ => True :=
  fun _ _ _ _ _ _ => ⟨(), trivial, (fun _ h => absurd h List.not_mem_nil), 0, fun _ _ => ⟨by simp, fun j a v h => by simp at h⟩⟩
theorem opensF_cons {t : TypeId} {o n1 n2 : Nat} {fs : List (TypeId × Nat)} {α β : Type} {C1 : α → List AV} {C2 : β → List AV} {wf1 : α → Prop} {wf2 : β → Prop}
    (h1 : OpensC P t n1 C1 wf1) (hc : P.cellsOf t = n1) (h2 : OpensF P fs (o + n1) n2 C2 wf2) : OpensF P ((t, o) :: fs) o (n1 + n2) (fun p : α × β => C1 p.1 ++ C2 p.2) fun p => wf1 p.1 ∧ wf2 p.2 := by
  intro H enc w fuel cs h
  obtain ⟨x, hx⟩ := h _ List.mem_cons_self
  obtain ⟨_, a, ha, hfa, N1, hN1⟩ := h1 H enc w fuel _ x hx
  obtain ⟨b, hb, hfb, N2, hN2⟩ := h2 H enc w fuel cs fun f hf => h f (List.mem_cons_of_mem _ hf)
  refine ⟨(a, b), ⟨ha, hb⟩, fun c hc => (List.mem_append.1 hc).elim (hfa c) (hfb c), max N1 N2, fun N hN => ?_⟩
  rw [List.take_add, List.drop_drop]
  refine VRs.append ?_ (hN2 N (by omega))
  rw [← hc]
  exact hN1 N (by omega)
theorem OpensC.map {t : TypeId} {n : Nat} {α β : Type} {C : α → List AV} {wf : α → Prop} (h : OpensC P t n C wf) {C' : β → List AV} {wf' : β → Prop} (g : α → β) (hC : ∀ a, C' (g a) = C a) (hw : ∀ a, wf a → wf' (g a)) : OpensC P t n C' wf' := by
  intro H enc w fuel cs x hx
  obtain ⟨h1, a, h2, h3, N0, h4⟩ := h H enc w fuel cs x hx
  exact ⟨h1, g a, hw a h2, by rw [hC]; exact h3, N0, by rw [hC]; exact h4⟩
theorem opens_struct {t : TypeId} {fs : Array Field} {n : Nat} {α : Type} {C : α → List AV} {wf : α → Prop} (ht : P.underlying t = some (.struct fs)) (hn : P.cellsOf t = n)
    (hf : OpensF P (fs.toList.map fun f => (f.type, f.offset)) 0 n C wf) : OpensC P t n C wf := by
  intro H enc w fuel cs x h
  obtain ⟨xs, m, _, _, hl, hxl, hel⟩ := DataW.trod_struct ht h
  obtain ⟨a, ha, hfa, N0, hN⟩ := hf H enc w m cs fun f hf => by
    obtain ⟨g, hg, rfl⟩ := List.mem_map.1 hf
    obtain ⟨i, hi⟩ := List.getElem?_of_mem hg
    have h1 := hel i g (by rw [← Array.getElem?_toList]; exact hi)
    have hi' := (List.getElem?_eq_some_iff.1 hi).1
    rw [List.getElem?_eq_getElem (by simpa [hxl] using hi')] at h1
    exact ⟨_, h1⟩
  refine ⟨by rw [hl, hn], a, ha, hfa, N0, fun N h => ?_⟩
  have := hN N h
  rwa [List.drop_zero, List.take_of_length_le (by omega)] at this
theorem opens_array {t e : TypeId} {m k n : Nat} {α : Type} {C : α → List AV} {wf : α → Prop} (ht : P.underlying t = some (.array m e)) (hn : P.cellsOf t = n) (hk : P.cellsOf e = k)
    (hf : OpensF P ((List.range m).map fun i => (e, i * k)) 0 n C wf) : OpensC P t n C wf := by
  intro H enc w fuel cs x h
  obtain ⟨xs, q, _, _, hl, hxl, hel⟩ := DataW.trod_array ht h
  obtain ⟨a, ha, hfa, N0, hN⟩ := hf H enc w q cs fun f hf => by
    obtain ⟨i, hi, rfl⟩ := List.mem_map.1 hf
    have hi' := List.mem_range.1 hi
    have h1 := hel i hi'
    rw [List.getElem?_eq_getElem (by omega), hk] at h1
    rw [hk]
    exact ⟨_, h1⟩
  refine ⟨by rw [hl, hn], a, ha, hfa, N0, fun N h => ?_⟩
  have := hN N h
  rwa [List.drop_zero, List.take_of_length_le (by omega)] at this

/-! Arguments. -/
section
variable {H : Type} {enc : TypeId × Value → H} {w : World} {t : TypeId} {α : Type} [Enc α] {wf : α → Prop} {b0 : Nat} {v : Value} {d : DataW H} {ps : List MemPlace}
theorem open_agg (hs : (∃ fs, P.underlying t = some (.struct fs)) ∨ ∃ n e, P.underlying t = some (.array n e)) (he : Opens P t α wf) (hval : Value.okWide P w .any b0 t v) (h : DataW.Trod enc P w 0 (fun _ => true) true t v d ps) :
    ∃ a : α, wf a ∧ ∃ N0, ∀ N, N0 ≤ N → VR w (bigR N w) (.agg (Enc.cells a)) v := by
  have hv : ∃ cs, v = .agg cs := by
    unfold Value.okWide at hval
    rcases hs with ⟨fs, hs⟩ | ⟨n, e, hs⟩ <;> rw [hs] at hval <;> obtain ⟨cs, rfl, _⟩ := hval <;> exact ⟨cs, rfl⟩
  obtain ⟨cs, rfl⟩ := hv
  obtain ⟨fuel, hf⟩ := h
  obtain ⟨_, a, ha, hfl, N0, hN⟩ := he H enc w fuel _ _ hf
  refine ⟨a, ha, N0, fun N h => ?_⟩
  have h1 := hN N h
  exact .agg _ _ hfl (by simpa [Value.cells] using h1.1) fun j c v h2 h3 => h1.2 j c v h2 (by simpa [Value.cells] using h3)
theorem open_plain (hs : ∀ cs, v ≠ .agg cs) (he : Opens P t α wf) (h : DataW.Trod enc P w 0 (fun _ => true) true t v d ps) :
    ∃ a : α, wf a ∧ ∃ N0, ∀ N, N0 ≤ N → VRs w (bigR N w) (Enc.cells a) [v] := by
  obtain ⟨fuel, hf⟩ := h
  obtain ⟨_, a, ha, _, N0, hN⟩ := he H enc w fuel _ _ hf
  refine ⟨a, ha, N0, fun N h => ?_⟩
  have h1 := hN N h
  have : v.cells.toList = [v] := by
    cases v <;> first | rfl | exact absurd rfl (hs _)
  rwa [this] at h1
theorem VRs.head {R : Nat → Nat} {a : AV} (h : VRs w R [a] [v]) : VR w R a v := h.2 0 a v rfl rfl
theorem open_i64 (ht : P.underlying t = some (.int .i64)) (hval : Value.okWide P w .any b0 t v) (h : DataW.Trod enc P w 0 (fun _ => true) true t v d ps) :
    ∃ n : Int, (-9223372036854775808 ≤ n ∧ n ≤ 9223372036854775807) ∧ ∃ N0, ∀ N, N0 ≤ N → VR w (bigR N w) (.int .i64 n) v := by
  obtain ⟨n, rfl, _⟩ := open_int ht hval h
  obtain ⟨a, ha, N0, hN⟩ := open_plain (fun _ h => by cases h) (opens_int ht) h
  exact ⟨a, ha, N0, fun N h => (hN N h).head⟩
theorem open_byte (ht : P.underlying t = some (.int .u8)) (hval : Value.okWide P w .any b0 t v) (h : DataW.Trod enc P w 0 (fun _ => true) true t v d ps) :
    ∃ n : UInt8, True ∧ ∃ N0, ∀ N, N0 ≤ N → VR w (bigR N w) (.int .u8 n.toNat) v := by
  obtain ⟨n, rfl, _⟩ := open_int ht hval h
  obtain ⟨a, ha, N0, hN⟩ := open_plain (fun _ h => by cases h) (opens_u8 ht) h
  exact ⟨a, ha, N0, fun N h => (hN N h).head⟩
theorem open_w32 (ht : P.underlying t = some (.int .u32)) (hval : Value.okWide P w .any b0 t v) (h : DataW.Trod enc P w 0 (fun _ => true) true t v d ps) :
    ∃ n : UInt32, True ∧ ∃ N0, ∀ N, N0 ≤ N → VR w (bigR N w) (.int .u32 n.toNat) v := by
  obtain ⟨n, rfl, _⟩ := open_int ht hval h
  obtain ⟨a, ha, N0, hN⟩ := open_plain (fun _ h => by cases h) (opens_u32 ht) h
  exact ⟨a, ha, N0, fun N h => (hN N h).head⟩
theorem open_w64 (ht : P.underlying t = some (.int .u64)) (hval : Value.okWide P w .any b0 t v) (h : DataW.Trod enc P w 0 (fun _ => true) true t v d ps) :
    ∃ n : UInt64, True ∧ ∃ N0, ∀ N, N0 ≤ N → VR w (bigR N w) (.int .u64 n.toNat) v := by
  obtain ⟨n, rfl, _⟩ := open_int ht hval h
  obtain ⟨a, ha, N0, hN⟩ := open_plain (fun _ h => by cases h) (opens_u64 ht) h
  exact ⟨a, ha, N0, fun N h => (hN N h).head⟩
theorem open_truth (ht : P.underlying t = some .bool) (hval : Value.okWide P w .any b0 t v) (h : DataW.Trod enc P w 0 (fun _ => true) true t v d ps) :
    ∃ b : Bool, True ∧ ∃ N0, ∀ N, N0 ≤ N → VR w (bigR N w) (.bool b) v := by
  obtain ⟨n, rfl, _⟩ := open_bool ht hval h
  exact ⟨n, trivial, 0, fun N _ => .bool n⟩
theorem open_text (ht : P.underlying t = some .string) (hval : Value.okWide P w .any b0 t v) (h : DataW.Trod enc P w 0 (fun _ => true) true t v d ps) :
    ∃ s : Str, s.b.length ≤ maxLen ∧ ∃ N0, ∀ N, N0 ≤ N → VR w (bigR N w) (.str s.b) v := by
  obtain ⟨n, rfl, _⟩ := Go.ChangeMaps.open_string ht hval h
  obtain ⟨a, ha, N0, hN⟩ := open_plain (fun _ h => by cases h) (opens_str ht) h
  exact ⟨a, ha, N0, fun N h => (hN N h).head⟩
end

theorem args1 {w : World} {R : Nat → Nat} {a0 : AV} {v0 : Value} (h0 : VR w R a0 v0) : ArgsR w R [a0] #[v0] :=
  ⟨rfl, fun j a v h1 h2 => by match j, h1, h2 with | 0, h1, h2 => (cases h1; cases h2; exact h0)⟩
theorem args2 {w : World} {R : Nat → Nat} {a0 a1 : AV} {v0 v1 : Value} (h0 : VR w R a0 v0) (h1 : VR w R a1 v1) : ArgsR w R [a0, a1] #[v0, v1] :=
  ⟨rfl, fun j a v k1 k2 => by match j, k1, k2 with | 0, k1, k2 => (cases k1; cases k2; exact h0) | 1, k1, k2 => (cases k1; cases k2; exact h1)⟩
theorem args3 {w : World} {R : Nat → Nat} {a0 a1 a2 : AV} {v0 v1 v2 : Value} (h0 : VR w R a0 v0) (h1 : VR w R a1 v1) (h2 : VR w R a2 v2) : ArgsR w R [a0, a1, a2] #[v0, v1, v2] :=
  ⟨rfl, fun j a v k1 k2 => by match j, k1, k2 with | 0, k1, k2 => (cases k1; cases k2; exact h0) | 1, k1, k2 => (cases k1; cases k2; exact h1) | 2, k1, k2 => (cases k1; cases k2; exact h2)⟩
end
end Go.AB
end

section
namespace Go.AB
open Go

def fieldsAre (P : Program) (t : TypeId) (L : List (TypeId × Nat)) : Bool := match P.underlying t with
  | some (.struct fs) => fs.toList.map (fun f => (f.type, f.offset)) == L
  | _ => false
theorem opens_fields {P : Program} {t : TypeId} {L : List (TypeId × Nat)} {n : Nat} {α : Type} {C : α → List AV} {wf : α → Prop} (hs : fieldsAre P t L = true) (hn : P.cellsOf t = n) (hf : OpensF P L 0 n C wf) : OpensC P t n C wf := by
  unfold fieldsAre at hs
  split at hs
  · rename_i fs ht
    have he := eq_of_beq hs
    exact opens_struct ht hn (by rw [he]; exact hf)
  · cases hs
end Go.AB
end

section
namespace Go.AB
open Go Go.RowKit Go.ChangeShapes Go.WideShapes

/-- What cells of a Go type read as, up to a depth. -/
def OpensB (K : Nat) (P : Program) (t : TypeId) {α : Type} (n : Nat) (C : α → List AV) (wf : α → Prop) : Prop :=
  ∀ (H : Type) (enc : TypeId × Value → H) (w : World) (fuel : Nat) (cs : List Value) (x : DataW H × List MemPlace), fuel ≤ K → DataW.trod enc P w 0 (fun _ => true) true fuel t cs = some x →
    cs.length = n ∧ ∃ a : α, wf a ∧ Fl (C a) ∧ ∃ N0, ∀ N, N0 ≤ N → VRs w (bigR N w) (C a) cs
def OpensFB (K : Nat) (P : Program) (fs : List (TypeId × Nat)) (o : Nat) {α : Type} (n : Nat) (C : α → List AV) (wf : α → Prop) : Prop :=
  ∀ (H : Type) (enc : TypeId × Value → H) (w : World) (fuel : Nat) (cs : List Value), fuel ≤ K → (∀ f ∈ fs, ∃ x, DataW.trod enc P w 0 (fun _ => true) true fuel f.1 ((cs.drop f.2).take (P.cellsOf f.1)) = some x) →
    ∃ a : α, wf a ∧ Fl (C a) ∧ ∃ N0, ∀ N, N0 ≤ N → VRs w (bigR N w) (C a) ((cs.drop o).take n)

section
variable {P : Program} {t : TypeId}

theorem OpensC.b {n : Nat} {α : Type} {C : α → List AV} {wf : α → Prop} (h : OpensC P t n C wf) (K : Nat) : OpensB K P t n C wf := fun H enc w fuel cs x _ hx => h H enc w fuel cs x hx
theorem OpensB.all {n : Nat} {α : Type} {C : α → List AV} {wf : α → Prop} (h : ∀ K, OpensB K P t n C wf) : OpensC P t n C wf := fun H enc w fuel cs x hx => h fuel H enc w fuel cs x (Nat.le_refl _) hx
theorem OpensB.le {n : Nat} {α : Type} {C : α → List AV} {wf : α → Prop} {K K' : Nat} (h : OpensB K P t n C wf) (hk : K' ≤ K) : OpensB K' P t n C wf := fun H enc w fuel cs x hf hx => h H enc w fuel cs x (Nat.le_trans hf hk) hx
theorem OpensB.zero {n : Nat} {α : Type} {C : α → List AV} {wf : α → Prop} : OpensB 0 P t n C wf := fun H enc w fuel cs x hf hx => by
  have : fuel = 0 := by omega
  subst this
  simp [DataW.trod] at hx
theorem OpensB.map {K n : Nat} {α β : Type} {C : α → List AV} {wf : α → Prop} (h : OpensB K P t n C wf) {C' : β → List AV} {wf' : β → Prop} (g : α → β) (hC : ∀ a, C' (g a) = C a) (hw : ∀ a, wf a → wf' (g a)) : OpensB K P t n C' wf' := by
  intro H enc w fuel cs x hf hx
  obtain ⟨h1, a, h2, h3, N0, h4⟩ := h H enc w fuel cs x hf hx
  exact ⟨h1, g a, hw a h2, by rw [hC]; exact h3, N0, by rw [hC]; exact h4⟩

theorem opensFB_nil {K o : Nat} : OpensFB K P [] o 0 (fun _ : Unit => []) fun _ => True :=
  fun _ _ _ _ _ _ _ => ⟨(), trivial, (fun _ h => absurd h List.not_mem_nil), 0, fun _ _ => ⟨by simp, fun j a v h => by simp at h⟩⟩
theorem opensFB_cons {K : Nat} {t : TypeId} {o n1 n2 : Nat} {fs : List (TypeId × Nat)} {α β : Type} {C1 : α → List AV} {C2 : β → List AV} {wf1 : α → Prop} {wf2 : β → Prop}
    (h1 : OpensB K P t n1 C1 wf1) (hc : P.cellsOf t = n1) (h2 : OpensFB K P fs (o + n1) n2 C2 wf2) : OpensFB K P ((t, o) :: fs) o (n1 + n2) (fun p : α × β => C1 p.1 ++ C2 p.2) fun p => wf1 p.1 ∧ wf2 p.2 := by
  intro H enc w fuel cs hk h
  obtain ⟨x, hx⟩ := h _ List.mem_cons_self
  obtain ⟨_, a, ha, hfa, N1, hN1⟩ := h1 H enc w fuel _ x hk hx
  obtain ⟨b, hb, hfb, N2, hN2⟩ := h2 H enc w fuel cs hk fun f hf => h f (List.mem_cons_of_mem _ hf)
  refine ⟨(a, b), ⟨ha, hb⟩, fun c hc => (List.mem_append.1 hc).elim (hfa c) (hfb c), max N1 N2, fun N hN => ?_⟩
  rw [List.take_add, List.drop_drop]
  refine VRs.append ?_ (hN2 N (by omega))
  rw [← hc]
  exact hN1 N (by omega)

theorem opens_fieldsB {K : Nat} {L : List (TypeId × Nat)} {n : Nat} {α : Type} {C : α → List AV} {wf : α → Prop} (hs : fieldsAre P t L = true) (hn : P.cellsOf t = n) (hf : OpensFB K P L 0 n C wf) : OpensB (K + 1) P t n C wf := by
  unfold fieldsAre at hs
  split at hs
  · rename_i fs ht
    have he := eq_of_beq hs
    subst he
    intro H enc w fuel cs x hk h
    obtain ⟨xs, m, rfl, _, hl, hxl, hel⟩ := DataW.trod_struct ht h
    obtain ⟨a, ha, hfa, N0, hN⟩ := hf H enc w m cs (by omega) fun f hf => by
      obtain ⟨g, hg, rfl⟩ := List.mem_map.1 hf
      obtain ⟨i, hi⟩ := List.getElem?_of_mem hg
      have h1 := hel i g (by rw [← Array.getElem?_toList]; exact hi)
      have hi' := (List.getElem?_eq_some_iff.1 hi).1
      rw [List.getElem?_eq_getElem (by simpa [hxl] using hi')] at h1
      exact ⟨_, h1⟩
    refine ⟨by rw [hl, hn], a, ha, hfa, N0, fun N h => ?_⟩
    have := hN N h
    rwa [List.drop_zero, List.take_of_length_le (by omega)] at this
  · cases hs

/-- A slice of them, as a cell. -/
theorem slice_cell {w : World} {α : Type} [Enc α] {wf : α → Prop} {a : Addr} {len cap : Nat} (hl : len ≤ cap) (hm : cap ≤ maxLen)
    (each : ∀ i, i < len → ∃ x : α × List Value, wf x.1 ∧ Fl (Enc.cells x.1) ∧ w.cells? 0 (a.add (i * Enc.w α)) (Enc.w α) = some x.2 ∧ ∃ N0, ∀ N, N0 ≤ N → VRs w (bigR N w) (Enc.cells x.1) x.2) :
    ∃ l : List α, (l.length ≤ maxLen ∧ ∀ a ∈ l, wf a) ∧ Fl [.sl false (Enc.w α) l.length (flat l)] ∧ ∃ N0, ∀ N, N0 ≤ N → VRs w (bigR N w) [.sl false (Enc.w α) l.length (flat l)] [.slice (some a) len cap] := by
  have hw : 0 < Enc.w α := Enc.pos
  rcases Nat.eq_zero_or_pos len with h0 | h0
  · subst h0
    exact ⟨[], ⟨Nat.zero_le _, fun _ h => absurd h List.not_mem_nil⟩, fl_one rfl, 0, fun N _ => .one (.sle _ _ _)⟩
  obtain ⟨b, off, spot⟩ := a
  have hplain : spot = none ∧ b < w.heap.size := by
    obtain ⟨x, _, _, h2, _⟩ := each 0 h0
    obtain ⟨_, h3, h4⟩ := World.cells?_some h2
    have h5 := h4 0 hw
    have hxl : 0 < x.2.length := by omega
    rw [List.getElem?_eq_getElem hxl] at h5
    unfold World.cell? at h5
    have e1 : (((⟨b, off, spot⟩ : Addr).add (0 * Enc.w α)).add 0).block = b := by
      unfold Addr.add; repeat' split
      all_goals rfl
    have e2 : (((⟨b, off, spot⟩ : Addr).add (0 * Enc.w α)).add 0).spot.isSome = spot.isSome := by
      cases spot with
      | none => unfold Addr.add; repeat' split
                all_goals simp_all
      | some q => unfold Addr.add; repeat' split
                  all_goals simp_all
    rw [e1, e2] at h5
    split at h5
    · rename_i hh
      refine ⟨?_, (Array.getElem?_eq_some_iff.1 hh).1⟩
      cases spot with
      | none => rfl
      | some q => simp at h5
    · cases h5
  obtain ⟨rfl, hb⟩ := hplain
  obtain ⟨L, hL, hQ⟩ := choose_list len each
  have hx : ∀ i, i < len → ∃ x, L[i]? = some x := fun i hi => ⟨L[i]'(by omega), List.getElem?_eq_getElem (by omega)⟩
  obtain ⟨N0, hN0⟩ := common (Q := fun i N => ∀ x, L[i]? = some x → VRs w (bigR N w) (Enc.cells x.1) x.2) len fun i hi => by
    obtain ⟨x, hx⟩ := hx i hi
    obtain ⟨_, _, _, N0, h⟩ := hQ i x hx
    exact ⟨N0, fun N hN y hy => by rw [hx] at hy; cases hy; exact h N hN⟩
  have hwf : ∀ a ∈ L.map (·.1), wf a ∧ Fl (Enc.cells a) := by
    intro a ha
    obtain ⟨x, hx, rfl⟩ := List.mem_map.1 ha
    obtain ⟨i, hi⟩ := List.getElem?_of_mem hx
    have := hQ i x hi
    exact ⟨this.1, this.2.1⟩
  have hget : ∀ (j : Nat) (c : AV), (flat (L.map (·.1)))[j]? = some c → ∃ v, w.cell? ⟨b, off + j, none⟩ = some v ∧ ∀ N, N0 ≤ N → VR w (bigR N w) c v := by
    intro j c hj
    have hjl := (List.getElem?_eq_some_iff.1 hj).1
    rw [flat_len, List.length_map, hL] at hjl
    have hi : j / Enc.w α < len := Nat.div_lt_of_lt_mul (by rw [Nat.mul_comm]; exact hjl)
    have hr : j % Enc.w α < Enc.w α := Nat.mod_lt _ hw
    have hje : j = j / Enc.w α * Enc.w α + j % Enc.w α := by rw [Nat.mul_comm]; exact (Nat.div_add_mod _ _).symm
    obtain ⟨x, hx⟩ := hx _ hi
    have h1 := flat_get (L.map (·.1)) (i := j / Enc.w α) (a := x.1) (by rw [List.getElem?_map, hx]; rfl) hr
    rw [← hje, hj] at h1
    obtain ⟨_, _, h2, _⟩ := hQ _ x hx
    obtain ⟨_, h3, h4⟩ := World.cells?_some h2
    have h5 := h4 _ hr
    rw [add_plain, add_plain, Nat.add_assoc, ← hje] at h5
    refine ⟨x.2[j % Enc.w α]'(by omega), by rw [h5, List.getElem?_eq_getElem], fun N hN => ?_⟩
    exact (hN0 N hN _ hi x hx).2 _ _ _ h1.symm (List.getElem?_eq_getElem _)
  refine ⟨L.map (·.1), ⟨by rw [List.length_map, hL]; omega, fun a ha => (hwf a ha).1⟩, fl_one rfl, max N0 (off + len * Enc.w α), fun N hN => .one ?_⟩
  rw [List.length_map, hL]
  refine .sl false (Enc.w α) len _ b off cap (fun j => (w.cell? ⟨b, off + j, none⟩).getD default) ?_ ?_ ?_ hl ?_ ?_
  · intro c hcm
    unfold flat at hcm
    obtain ⟨l, hl, hcl⟩ := List.mem_flatten.1 hcm
    obtain ⟨a, ha, rfl⟩ := List.mem_map.1 hl
    exact (hwf a ha).2 c hcl
  · rw [flat_len, List.length_map, hL]
  · rw [flat_len, List.length_map, hL]
    unfold bigR
    rw [if_pos hb]; omega
  · intro j c hj
    obtain ⟨v, h1, _⟩ := hget j c hj
    rw [h1]; rfl
  · intro j c hj
    obtain ⟨v, h1, h2⟩ := hget j c hj
    simp only [h1, Option.getD_some]; exact h2 N (by omega)

theorem opens_sliceB {K : Nat} {e : TypeId} {α : Type} [Enc α] {wf : α → Prop} (ht : P.underlying t = some (.slice e)) (hc : P.cellsOf e = Enc.w α) (he : OpensB K P e (Enc.w α) (Enc.cells : α → List AV) wf) :
    OpensB (K + 1) P t 1 (fun l : List α => [.sl false (Enc.w α) l.length (flat l)]) fun l => l.length ≤ maxLen ∧ ∀ a ∈ l, wf a := by
  intro H enc w fuel cs x hk h
  rcases DataW.trod_slice ht h with ⟨rfl, _⟩ | ⟨a, len, cap, elems, rest, n, rfl, rfl, _, _, hl, hm, hlen, hel, _⟩
  · exact ⟨rfl, [], ⟨Nat.zero_le _, fun _ h => absurd h List.not_mem_nil⟩, fl_one rfl, 0, fun N _ => .one (.slnil _ _)⟩
  · refine ⟨rfl, slice_cell hl hm fun i hi => ?_⟩
    have h1 := hel i hi
    rw [hc, List.getElem?_eq_getElem (by omega), Option.bind_eq_some_iff] at h1
    obtain ⟨cs, h2, h3⟩ := h1
    obtain ⟨_, x, h4, h5, h6⟩ := he H enc w n cs _ (by omega) h3
    exact ⟨(x, cs), h4, h5, h2, h6⟩
theorem opens_sliceC {e : TypeId} {α : Type} [Enc α] {wf : α → Prop} (ht : P.underlying t = some (.slice e)) (hc : P.cellsOf e = Enc.w α) (he : Opens P e α wf) :
    OpensC P t 1 (fun l : List α => [.sl false (Enc.w α) l.length (flat l)]) fun l => l.length ≤ maxLen ∧ ∀ a ∈ l, wf a :=
  OpensB.all fun K => (opens_sliceB ht hc (OpensC.b he K)).le (Nat.le_succ K)

theorem fieldsAre_ex {L : List (TypeId × Nat)} (hs : fieldsAre P t L = true) : ∃ fs, P.underlying t = some (.struct fs) := by
  unfold fieldsAre at hs
  split at hs
  · rename_i fs ht; exact ⟨fs, ht⟩
  · cases hs
theorem okWide_slice {w : World} {e : TypeId} {b0 : Nat} {v : Value} (ht : P.underlying t = some (.slice e)) (hval : Value.okWide P w .any b0 t v) : ∀ cs, v ≠ .agg cs := by
  intro cs h
  subst h
  unfold Value.okWide Cell.okWide Cell.ok at hval
  rw [ht] at hval
  exact hval
/-- An argument that is a slice. -/
theorem open_row {H : Type} {enc : TypeId × Value → H} {w : World} {e : TypeId} {α : Type} [Enc α] {wf : α → Prop} {v : Value} {d : DataW H} {ps : List MemPlace}
    (ht : P.underlying t = some (.slice e)) (hc : P.cellsOf e = Enc.w α) (he : Opens P e α wf) (h : DataW.Trod enc P w 0 (fun _ => true) true t v d ps) (hv : ∀ cs, v ≠ .agg cs) :
    ∃ l : List α, (l.length ≤ maxLen ∧ ∀ a ∈ l, wf a) ∧ ∃ N0, ∀ N, N0 ≤ N → VR w (bigR N w) (.sl false (Enc.w α) l.length (flat l)) v := by
  obtain ⟨fuel, hf⟩ := h
  obtain ⟨_, l, hl, _, N0, hN⟩ := opens_sliceC ht hc he H enc w fuel _ _ hf
  have hcells : v.cells.toList = [v] := by
    cases v <;> first | rfl | exact absurd rfl (hv _)
  refine ⟨l, hl, N0, fun N h => ?_⟩
  have := hN N h
  rw [hcells] at this
  exact this.head
end
end Go.AB
end

section
set_option linter.unusedSimpArgs false
namespace Go.AB
open Go Go.ChangeShapes Go.WideShapes Go.ChangeAt Go.RowKit Go.Proofs.YtpioecahefokmaaGreat Go.Proofs

inductive wf_api_Value : api_Value → Prop where
  | mk (x : api_Value) (h1 : -9223372036854775808 ≤ x.Kind ∧ x.Kind ≤ 9223372036854775807) (h2 : -9223372036854775808 ≤ x.N ∧ x.N ≤ 9223372036854775807) (h3 : x.S.b.length ≤ maxLen) (h4 : x.L.length ≤ maxLen) (h5 : ∀ v ∈ x.L, wf_api_Value v) : wf_api_Value x
theorem opens_28 : Opens Go.Proofs.Tryz.prog 28 api_Value wf_api_Value := by
  refine OpensB.all fun K => ?_
  induction K using Nat.strongRecOn with | ind K ih =>
  cases K with
  | zero => exact OpensB.zero
  | succ K =>
    have hs : OpensB K Go.Proofs.Tryz.prog 26 1 (fun l : List api_Value => [.sl false 4 l.length (flat l)]) (fun l => l.length ≤ maxLen ∧ ∀ a ∈ l, wf_api_Value a) := by
      cases K with
      | zero => exact OpensB.zero
      | succ k => exact opens_sliceB (by kernel_rfl) (by kernel_rfl) (ih k (by omega))
    exact OpensB.map (opens_fieldsB (L := [(3, 0), (3, 1), (9, 2), (26, 3)]) (by kernel_rfl) (by kernel_rfl) (opensFB_cons ((opens_int (P := Go.Proofs.Tryz.prog) (t := 3) (by kernel_rfl)).b K) (by kernel_rfl) (opensFB_cons ((opens_int (P := Go.Proofs.Tryz.prog) (t := 3) (by kernel_rfl)).b K) (by kernel_rfl) (opensFB_cons ((opens_str (P := Go.Proofs.Tryz.prog) (t := 9) (by kernel_rfl)).b K) (by kernel_rfl) (opensFB_cons hs (by kernel_rfl) opensFB_nil)))))
      (fun p => ⟨p.1, p.2.1, p.2.2.1, p.2.2.2.1⟩) (fun p => by rw [cells_api_Value]; rfl) (fun p h => .mk _ h.1 h.2.1 h.2.2.1 h.2.2.2.1.1 h.2.2.2.1.2)
def wf_api_Object (x : api_Object) : Prop := wf_api_Value x.V ∧ True ∧ x.Data.b.length ≤ maxLen ∧ True
theorem opens_75 : Opens Go.Proofs.Tryz.prog 75 api_Object wf_api_Object :=
  OpensC.map (opens_fields (L := [(28, 0), (4, 4), (9, 5)]) (by kernel_rfl) (by kernel_rfl) (opensF_cons opens_28 (by kernel_rfl) (opensF_cons (opens_bool (P := Go.Proofs.Tryz.prog) (t := 4) (by kernel_rfl)) (by kernel_rfl) (opensF_cons (opens_str (P := Go.Proofs.Tryz.prog) (t := 9) (by kernel_rfl)) (by kernel_rfl) opensF_nil))))
    (fun p => ⟨p.1, p.2.1, p.2.2.1⟩) (fun p => by first | rfl | (simp only [cells_api_Value, cells_api_Object]; rfl)) (fun _ h => h)
theorem opens_22 : OpensC Go.Proofs.Tryz.prog 22 1 (fun l : List api_Object => [.sl false 6 l.length (flat l)]) (fun l => l.length ≤ maxLen ∧ ∀ a ∈ l, wf_api_Object a) := opens_sliceC (by kernel_rfl) (by kernel_rfl) opens_75
def wf_api_Doc (x : api_Doc) : Prop := (x.Objects.length ≤ maxLen ∧ ∀ a ∈ x.Objects, wf_api_Object a) ∧ (-9223372036854775808 ≤ x.Root ∧ x.Root ≤ 9223372036854775807) ∧ True
theorem opens_24 : Opens Go.Proofs.Tryz.prog 24 api_Doc wf_api_Doc :=
  OpensC.map (opens_fields (L := [(22, 0), (3, 1)]) (by kernel_rfl) (by kernel_rfl) (opensF_cons opens_22 (by kernel_rfl) (opensF_cons (opens_int (P := Go.Proofs.Tryz.prog) (t := 3) (by kernel_rfl)) (by kernel_rfl) opensF_nil)))
    (fun p => ⟨p.1, p.2.1⟩) (fun p => by first | rfl | (simp only [cells_api_Value, cells_api_Doc]; rfl)) (fun _ h => h)
theorem law20_TreeAll_own : ownKnob Tryz.prog.godebug = none := by kernel_rfl
theorem law20_TreeAll_laid : laidOutB Tryz.prog = true := by kernel_rfl
theorem law20_TreeAll_ub : Tryz.prog.underlying 4 = some .bool := by kernel_rfl
set_option maxRecDepth 100000 in
theorem law20_TreeAll_law {H : Type} {enc : TypeId × Value → H} {W : World} {base : Nat} {args : Array Value} {ds gs : List (DataW H)} {before : List MemPlace}
    (hval0 : ∀ (j : Nat) t v, Tryz.f5.params[j]? = some t → args[j]? = some v → Value.okWide Tryz.prog W .any base t v)
    (hW : DataW.Whole enc Tryz.prog Tryz.f5.params.toList Rows.treeAllSpec.vars false W args.toList ds gs before) :
    Calls Tryz.prog 5 args W fun e w' => e = .returned (.bool true) ∧ Below W.heap.size W w' := by
  obtain ⟨p, q, hA0, hV, rfl, hfz, hnd⟩ := hW
  have hval := hval0
  have hA : DataW.TrodAll enc Tryz.prog W 0 (fun _ => true) true Tryz.f5.params.toList args.toList ds p := hA0
  have hp : Tryz.f5.params = #[24] := by kernel_rfl
  rw [hp] at hA hval
  obtain ⟨v0, d0, rfl, rfl, h0⟩ := trodAll_one hA
  obtain ⟨x0, w0, N0, k0⟩ := open_agg (.inl (fieldsAre_ex (L := [(22, 0), (3, 1)]) (by kernel_rfl))) opens_24 (hval 0 24 v0 rfl rfl) h0
  refine law_calls' N0 ?_ (args1 (k0 _ (by omega)))
  exact (law20_TreeAll_fe (law20_TreeAll_true x0)).app rfl

end Go.AB
namespace Go.Proofs.YtpioecahefokmaaGreat
open Go.ChangeShapes Go.WideShapes Go.ChangeAt Go.RowKit
set_option maxRecDepth 100000 in
theorem treeAll_lifted (os : Os) (started : os.Started) (H : Type) (enc : TypeId × Value → H) :
    ReturnsInHanded {} Tryz.checked os 5 .any (Rows.treeAllSpec.pre6 enc Tryz.prog Tryz.f5 Rows.treeAllRow.domain false) (Rows.treeAllSpec.post enc Tryz.prog Tryz.f5 false true false false) := by
  refine returnsInHanded_of_change (C := Tryz.checked) AB.law20_TreeAll_own started (by kernel_rfl) Tryz.func5
    (ChangeSpec.witness6 (enc := enc) (C := Tryz.checked) false ⟨#[], #[.agg #[.slice none 0 0, .int .i64 0]], []⟩ 8 (by kernel_rfl) (by kernel_rfl) (by kernel_rfl) (by kernel_rfl)) ?_
  intro W base args ds gs before hval hW _ _
  exact AB.law_post rfl (by kernel_rfl) AB.law20_TreeAll_ub AB.law20_TreeAll_laid (of_decide_eq_true (by kernel_rfl)) (fun ds h => by
    match ds, h with
    | [_], _ => rfl) hW (AB.law20_TreeAll_law hval hW)

theorem treeAll_holds : Rows.TreeAllSaid :=
  OpenClaim.holds_of_wide 5 Tryz.f5 rfl rfl rfl rfl rfl rfl rfl ⟨rfl, rfl, rfl, rfl, rfl⟩ rfl rfl rfl rfl rfl (by kernel_rfl) Tryz.func5 (by kernel_rfl)
    (of_decide_eq_true (by kernel_rfl)) (by unfold Func.isWrapper; first | (rw [if_pos (by decide +kernel)]; kernel_rfl) | (rw [if_neg (by decide +kernel)]; exact ⟨rfl, rfl⟩))
    (fun os started H enc _ => treeAll_lifted os started H enc)
end Go.Proofs.YtpioecahefokmaaGreat
end
