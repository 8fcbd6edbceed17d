/- The law TreeWay returns true for every input; each argument reads behind the call as it read before. No condition. -/
import Derived.Test.YtpioecahefokmaaTreeWay5
import Derived.Lib.Bytealg
import Derived.Laws.Externs
import Derived.Lib.Walk
import Derived.Test.YtpioecahefokmaaTreeWay4
import Derived.ProofKit
import Derived.OpenShut
import Derived.ChangeCalls
import Derived.Test.YtpioecahefokmaaRows
import Derived.JoinedCond
set_option linter.unusedSimpArgs false
set_option linter.unusedVariables false
section
namespace Go.AB
open Go

/-- A loop whose states are known, up to its end. -/
theorem iter_upto {S O : Type} {body : S → Option (S ⊕ O)} {s0 : S} {o : O} (n : Nat) (st : Nat → S) (h0 : st 0 = s0) (hn : n < 18446744073709551615) (hs : ∀ k, k < n → body (st k) = some (.inl (st (k + 1)))) (he : body (st n) = some (.inr o)) : iter body s0 = some o := by
  have key : ∀ j, j ≤ n → ∀ m, iterN body (m + 1 + j) (st (n - j)) = some o := by
    intro j
    induction j with
    | zero =>
      intro _ m
      show iterN body (m + 1) (st n) = some o
      unfold iterN
      rw [he]
    | succ j ih =>
      intro hj m
      show iterN body (m + 1 + j + 1) (st (n - (j + 1))) = some o
      unfold iterN
      rw [hs _ (by omega), show n - (j + 1) + 1 = n - j by omega]
      exact ih (by omega) m
  have := key n (Nat.le_refl n) (18446744073709551616 - 1 - n)
  rw [Nat.sub_self, h0, show 18446744073709551616 - 1 - n + 1 + n = 18446744073709551616 by omega] at this
  exact this

theorem iter_acc {A O : Type} {body : A × Int → Option ((A × Int) ⊕ O)} {a0 : A} {o : O} (n : Nat) (acc : Nat → A) (h0 : acc 0 = a0) (hn : n < 4611686018427387904) (hs : ∀ k, k < n → body (acc k, (k : Int)) = some (.inl (acc (k + 1), w64 ((k : Int) + 1)))) (he : body (acc n, (n : Int)) = some (.inr o)) : iter body (a0, 0) = some o :=
  iter_upto n (fun k => (acc k, (k : Int))) (by rw [h0]; rfl) (by omega) (fun k hk => by
    rw [hs k hk, w64_id (by omega) (by omega)]; rfl) he
theorem iter_cnt {O : Type} {body : Int → Option (Int ⊕ O)} {o : O} (n : Nat) (hn : n < 4611686018427387904) (hs : ∀ k, k < n → body (k : Int) = some (.inl (w64 ((k : Int) + 1)))) (he : body (n : Int) = some (.inr o)) : iter body 0 = some o :=
  iter_upto n (fun k => (k : Int)) rfl (by omega) (fun k hk => by
    rw [hs k hk, w64_id (by omega) (by omega)]; rfl) he
theorem jn_of {α β : Type} {o : Option α} {a : α} {K : α → Option β} {r : Option β} (h : o = some a) (k : K a = r) : jn o K = r := by rw [h]; exact k
theorem bnd_of {α β : Type} {o : Option α} {a : α} {K : α → Option β} {r : Option β} (h : o = some a) (k : K a = r) : bnd o K = r := by rw [h]; exact k
theorem jnS_of {X Y α : Type} {o : Option (X ⊕ Y)} {z : X ⊕ Y} {F : X → Option α} {G : Y → Option α} {r : Option α} (h : o = some z) (k : (match z with | .inl a => F a | .inr b => G b) = r) : jnS o F G = r := by
  rw [h]
  cases z <;> exact k
theorem bndS_of {X Y α : Type} {o : Option (X ⊕ Y)} {z : X ⊕ Y} {F : X → Option α} {G : Y → Option α} {r : Option α} (h : o = some z) (k : (match z with | .inl a => F a | .inr b => G b) = r) : bndS o F G = r := by
  rw [h]
  cases z <;> exact k
theorem need_of {α : Type} {c : Prop} [Decidable c] {o r : Option α} (h : c) (k : o = r) : need c o = r := by rw [need_pos h]; exact k
theorem if_of {α : Type} {c : Prop} [Decidable c] {a b r : α} (h : c) (k : a = r) : (if c then a else b) = r := by rw [if_pos h]; exact k
theorem if_not {α : Type} {c : Prop} [Decidable c] {a b r : α} (h : ¬ c) (k : b = r) : (if c then a else b) = r := by rw [if_neg h]; exact k

abbrev zeroV : api_Value := api_Value.mk 0 0 (Str.mk []) ([] : List api_Value)
abbrev zeroO : api_Object := api_Object.mk zeroV false (Str.mk [])

/-- A dictionary's rows. -/
def encP : List (Str × api_Value) → List api_Value
  | [] => []
  | p :: G => ⟨5, 0, p.1, []⟩ :: p.2 :: encP G
theorem encP_len : ∀ G : List (Str × api_Value), (encP G).length = 2 * G.length
  | [] => rfl
  | p :: G => by rw [encP, List.length_cons, List.length_cons, encP_len G, List.length_cons]; omega
theorem encP_key : ∀ (G : List (Str × api_Value)) (i : Nat) (h : i < G.length), (encP G).getD (2 * i) zeroV = ⟨5, 0, (G[i]).1, []⟩
  | p :: G, 0, _ => rfl
  | p :: G, i + 1, h => by
    show (⟨5, 0, p.1, []⟩ :: p.2 :: encP G).getD (2 * i + 1 + 1) zeroV = _
    rw [List.getD_cons_succ, List.getD_cons_succ]
    exact encP_key G i (by simpa using h)
theorem encP_val : ∀ (G : List (Str × api_Value)) (i : Nat) (h : i < G.length), (encP G).getD (2 * i + 1) zeroV = (G[i]).2
  | p :: G, 0, _ => rfl
  | p :: G, i + 1, h => by
    show (⟨5, 0, p.1, []⟩ :: p.2 :: encP G).getD (2 * i + 1 + 1 + 1) zeroV = _
    rw [List.getD_cons_succ, List.getD_cons_succ]
    exact encP_val G i (by simpa using h)
theorem ix_key {G : List (Str × api_Value)} {i : Nat} (h : i < G.length) : ix (encP G) (((2 * i : Nat)) : Int) = ⟨5, 0, (G[i]).1, []⟩ := encP_key G i h
theorem ix_val {G : List (Str × api_Value)} {i : Nat} (h : i < G.length) : ix (encP G) (((2 * i + 1 : Nat)) : Int) = (G[i]).2 := encP_val G i h

def aidx (G : List (Str × api_Value)) (p : Str → Bool) : Option Nat := G.findIdx? fun x => p x.1
theorem aidx_lt {G : List (Str × api_Value)} {p : Str → Bool} {i : Nat} (h : aidx G p = some i) : i < G.length := by
  unfold aidx at h
  obtain ⟨h, _⟩ := List.findIdx?_eq_some_iff_getElem.1 h
  exact h

/-- A loop over the names of a dictionary, for the first that is so. -/
theorem names_loop {O : Type} (G : List (Str × api_Value)) (p : Str → Bool) (hl : G.length ≤ 1000) (a : Nat → O) (b : O) (body : Int → Option (Int ⊕ O))
    (hb : ∀ i (h : i < G.length), body ((2 * i : Nat) : Int) = some (if p (G[i]).1 then .inr (a i) else .inl (w64 (((2 * i : Nat) : Int) + 2)))) (he : body ((2 * G.length : Nat) : Int) = some (.inr b)) :
    iter body 0 = some (match aidx G p with | some i => a i | none => b) := by
  cases hx : aidx G p with
  | none =>
    unfold aidx at hx
    rw [List.findIdx?_eq_none_iff] at hx
    refine iter_upto G.length (fun k => ((2 * k : Nat) : Int)) rfl (by omega) (fun k hk => ?_) he
    rw [hb k hk, hx _ (List.getElem_mem hk), if_neg (by simp), w64_id (by omega) (by omega)]
    congr 2
  | some i =>
    unfold aidx at hx
    obtain ⟨h1, h2, h3⟩ := List.findIdx?_eq_some_iff_getElem.1 hx
    refine iter_upto i (fun k => ((2 * k : Nat) : Int)) rfl (by omega) (fun k hk => ?_) ?_
    · rw [hb k (by omega), if_neg (by simpa using h3 k hk), w64_id (by omega) (by omega)]
      congr 2
    · rw [hb i h1, if_pos h2]

def dictV (G : List (Str × api_Value)) : api_Value := ⟨7, 0, ⟨[]⟩, encP G⟩
theorem find_dict (G : List (Str × api_Value)) (key : Str) (hl : G.length ≤ 1000) : value_find (dictV G) key = some (match aidx G (fun k => k.b == key.b) with | some i => ((2 * i : Nat) : Int) | none => -1) := by
  unfold value_find
  rw [if_neg (by simp [dictV])]
  have hlen : (dictV G).L.length = 2 * G.length := encP_len G
  rw [names_loop (O := Unit ⊕ Int) G (fun k => k.b == key.b) hl (fun i => .inr ((2 * i : Nat) : Int)) (.inl ()) _ ?_ ?_]
  · cases aidx G (fun k => k.b == key.b) <;> rfl
  · intro i h
    have hk : ix (dictV G).L ((2 * i : Nat) : Int) = ⟨5, 0, (G[i]).1, []⟩ := ix_key h
    have hc : decide (((2 * i : Nat) : Int) < ((dictV G).L.length : Int)) = true := by rw [hlen]; simp; omega
    simp only [hc, if_true]
    rw [need_pos (by rw [hlen]; omega), need_pos (fun _ => by rw [hlen]; omega), hk]
    cases h5 : ((G[i]).1.b == key.b) <;> simp [h5]
  · have hc : decide (((2 * G.length : Nat) : Int) < ((dictV G).L.length : Int)) = false := by rw [hlen]; simp
    simp only [hc, Bool.false_eq_true, if_false]
theorem putAt_dict (G : List (Str × api_Value)) (key : Str) (hl : G.length ≤ 1000) : value_putAt (dictV G) key = some (match aidx G (fun k => !((Op.bytesLess k.b key.b) || (k.b == key.b))) with | some i => ((2 * i : Nat) : Int) | none => ((2 * G.length : Nat) : Int)) := by
  unfold value_putAt
  have hlen : (dictV G).L.length = 2 * G.length := encP_len G
  rw [names_loop (O := Int) G (fun k => !((Op.bytesLess k.b key.b) || (k.b == key.b))) hl (fun i => ((2 * i : Nat) : Int)) ((2 * G.length : Nat) : Int) _ ?_ ?_]
  · intro i h
    have hk : ix (dictV G).L ((2 * i : Nat) : Int) = ⟨5, 0, (G[i]).1, []⟩ := ix_key h
    have hc : decide (((2 * i : Nat) : Int) < ((dictV G).L.length : Int)) = true := by rw [hlen]; simp; omega
    simp only [hc, if_true]
    rw [need_pos (by rw [hlen]; omega), need_pos (fun _ => by rw [hlen]; omega), hk]
    cases h5 : (!((Op.bytesLess (G[i]).1.b key.b) || ((G[i]).1.b == key.b))) <;> simp [h5]
  · have hc : decide (((2 * G.length : Nat) : Int) < ((dictV G).L.length : Int)) = false := by rw [hlen]; simp
    rw [if_neg (by rw [hc]; simp), hlen]
end Go.AB
end

section
namespace Go.AB
open Go

def kC : Str := Str.mk [67, 114, 111, 112, 66, 111, 120]
def kM : Str := Str.mk [77, 101, 100, 105, 97, 66, 111, 120]
def kR : Str := Str.mk [82, 101, 115, 111, 117, 114, 99, 101, 115]
def kT : Str := Str.mk [82, 111, 116, 97, 116, 101]
/-- Four names, in order, each with a value or none. -/
structure Gv where
  c : Option api_Value
  m : Option api_Value
  r : Option api_Value
  t : Option api_Value
def opt1 (k : Str) : Option api_Value → List (Str × api_Value)
  | none => []
  | some x => [(k, x)]
def Gv.L (g : Gv) : List (Str × api_Value) := opt1 kC g.c ++ (opt1 kM g.m ++ (opt1 kR g.r ++ opt1 kT g.t))
def Gv.v (g : Gv) : api_Value := dictV g.L
theorem Gv.len (g : Gv) : g.L.length ≤ 4 := by
  obtain ⟨c, m, r, t⟩ := g
  cases c <;> cases m <;> cases r <;> cases t <;> simp [Gv.L, opt1]
theorem room_ge : 100000 ≤ room := by decide

theorem put_Gv (g : Gv) (key : Str) (x y : api_Value) (h : (match aidx g.L (fun k => k.b == key.b) with
    | some i => ⟨7, 0, ⟨[]⟩, (encP g.L).take (2 * i + 1) ++ [x] ++ (encP g.L).drop (2 * i + 2)⟩
    | none => ⟨7, 0, ⟨[]⟩, (encP g.L).take (match aidx g.L (fun k => !((Op.bytesLess k.b key.b) || (k.b == key.b))) with | some i => 2 * i | none => 2 * g.L.length) ++ [⟨5, 0, key, []⟩, x] ++ (encP g.L).drop (match aidx g.L (fun k => !((Op.bytesLess k.b key.b) || (k.b == key.b))) with | some i => 2 * i | none => 2 * g.L.length)⟩) = y) : value_Put g.v key x = some y := by
  have hl := g.len
  have hroom := room_ge
  have hlen : g.v.L.length = 2 * g.L.length := encP_len g.L
  subst h
  unfold value_Put
  rw [if_neg (by simp [Gv.v, dictV]), need_pos (by rw [hlen]; omega), show g.v = dictV g.L from rfl, find_dict _ _ (by omega), putAt_dict _ _ (by omega), bnd_some, bnd_some]
  have hlen' : (dictV g.L).L.length = 2 * g.L.length := encP_len g.L
  cases h1 : aidx g.L (fun k => k.b == key.b) with
  | some i =>
    have hi := aidx_lt h1
    have h0 : decide (((2 * i : Nat) : Int) ≥ 0) = true := by simp; omega
    simp only [h0, if_true]
    rw [need_pos (by rw [hlen']; omega)]
    simp only [Int.toNat_natCast]
    rfl
  | none =>
    simp only [show decide ((-1 : Int) ≥ 0) = false by decide, Bool.false_eq_true, if_false]
    cases h2 : aidx g.L (fun k => !((Op.bytesLess k.b key.b) || (k.b == key.b))) with
    | some i =>
      have hi := aidx_lt h2
      simp only
      rw [need_pos (by rw [hlen']; omega)]
      simp only [Int.toNat_natCast]
      rfl
    | none =>
      simp only
      rw [need_pos (by rw [hlen']; omega)]
      simp only [Int.toNat_natCast]
      rfl
theorem put_C (g : Gv) (x : api_Value) : value_Put g.v kC x = some { g with c := some x }.v := by
  refine put_Gv g kC x _ ?_
  obtain ⟨c, m, r, t⟩ := g
  cases c <;> cases m <;> cases r <;> cases t <;> rfl
theorem put_M (g : Gv) (x : api_Value) : value_Put g.v kM x = some { g with m := some x }.v := by
  refine put_Gv g kM x _ ?_
  obtain ⟨c, m, r, t⟩ := g
  cases c <;> cases m <;> cases r <;> cases t <;> rfl
theorem put_R (g : Gv) (x : api_Value) : value_Put g.v kR x = some { g with r := some x }.v := by
  refine put_Gv g kR x _ ?_
  obtain ⟨c, m, r, t⟩ := g
  cases c <;> cases m <;> cases r <;> cases t <;> rfl
theorem put_T (g : Gv) (x : api_Value) : value_Put g.v kT x = some { g with t := some x }.v := by
  refine put_Gv g kT x _ ?_
  obtain ⟨c, m, r, t⟩ := g
  cases c <;> cases m <;> cases r <;> cases t <;> rfl

theorem drop_Gv (g : Gv) (key : Str) (y : api_Value) (h : (match aidx g.L (fun k => k.b == key.b) with
    | some i => ⟨7, 0, ⟨[]⟩, (encP g.L).take (2 * i) ++ (encP g.L).drop (2 * i + 2)⟩
    | none => dictV g.L) = y) : value_Drop g.v key = some y := by
  have hl := g.len
  have hroom := room_ge
  subst h
  unfold value_Drop
  rw [show g.v = dictV g.L from rfl, find_dict _ _ (by omega), bnd_some]
  have hlen' : (dictV g.L).L.length = 2 * g.L.length := encP_len g.L
  cases h1 : aidx g.L (fun k => k.b == key.b) with
  | some i =>
    have hi := aidx_lt h1
    have h0 : decide (((2 * i : Nat) : Int) < 0) = false := by simp; omega
    simp only [h0, Bool.false_eq_true, if_false]
    rw [need_pos (by rw [hlen']; omega), hlen']
    have : min (2 * i + 2) (2 * g.L.length) = 2 * i + 2 := by omega
    simp only [Int.toNat_natCast, this]
    rfl
  | none =>
    simp only [show decide ((-1 : Int) < 0) = true by decide, if_true]
theorem drop_C (g : Gv) : value_Drop g.v kC = some { g with c := none }.v := by
  refine drop_Gv g kC _ ?_
  obtain ⟨c, m, r, t⟩ := g
  cases c <;> cases m <;> cases r <;> cases t <;> rfl
theorem drop_M (g : Gv) : value_Drop g.v kM = some { g with m := none }.v := by
  refine drop_Gv g kM _ ?_
  obtain ⟨c, m, r, t⟩ := g
  cases c <;> cases m <;> cases r <;> cases t <;> rfl
theorem drop_R (g : Gv) : value_Drop g.v kR = some { g with r := none }.v := by
  refine drop_Gv g kR _ ?_
  obtain ⟨c, m, r, t⟩ := g
  cases c <;> cases m <;> cases r <;> cases t <;> rfl
theorem drop_T (g : Gv) : value_Drop g.v kT = some { g with t := none }.v := by
  refine drop_Gv g kT _ ?_
  obtain ⟨c, m, r, t⟩ := g
  cases c <;> cases m <;> cases r <;> cases t <;> rfl

/-! What a name has, as a function. -/
def pget (v : api_Value) (key : Str) : api_Value × Bool := (value_Get v key).getD (zeroV, false)
def Small (v : api_Value) : Prop := (v.L.length : Int) ≤ 4611686018427387904
theorem Small.of_W {n : Nat} {v : api_Value} (h : W n v) (hn : n ≤ 1000) : Small v := by
  have := W_len h
  unfold Small; omega
theorem get_eq {v : api_Value} (h : Small v) (key : Str) : value_Get v key = some (pget v key) := by
  obtain ⟨r, hr⟩ := value_Get_some v key h
  unfold pget; rw [hr]; rfl
theorem rget_eq {v : api_Value} (h : Small v) (key : Str) : ref11_Get v key = some (pget v key) := by rw [ref11_Get_eq v key h, get_eq h]

def over (o : Option api_Value) (r : api_Value × Bool) : Option api_Value := if r.2 then some r.1 else o
def lack (o : Option api_Value) (r : api_Value × Bool) : Option api_Value := if r.2 then none else o
def Gv.give (g : Gv) (v : api_Value) : Gv := ⟨over g.c (pget v kC), over g.m (pget v kM), over g.r (pget v kR), over g.t (pget v kT)⟩
def Gv.leave (g : Gv) (v : api_Value) : Gv := ⟨lack g.c (pget v kC), lack g.m (pget v kM), lack g.r (pget v kR), lack g.t (pget v kT)⟩

def giveN (g : Gv) (v : api_Value) : Nat → Gv
  | 0 => g
  | 1 => { g with r := over g.r (pget v kR) }
  | 2 => { g with r := over g.r (pget v kR), m := over g.m (pget v kM) }
  | 3 => { g with r := over g.r (pget v kR), m := over g.m (pget v kM), c := over g.c (pget v kC) }
  | _ => g.give v
def leaveN (g : Gv) (v : api_Value) : Nat → Gv
  | 0 => g
  | 1 => { g with r := lack g.r (pget v kR) }
  | 2 => { g with r := lack g.r (pget v kR), m := lack g.m (pget v kM) }
  | 3 => { g with r := lack g.r (pget v kR), m := lack g.m (pget v kM), c := lack g.c (pget v kC) }
  | _ => g.leave v
def key4 : Nat → Str
  | 0 => kR
  | 1 => kM
  | 2 => kC
  | _ => kT
theorem ix_key4 {k : Nat} (h : k < 4) : ix [kR, kM, kC, kT] (k : Int) = key4 k := by
  rcases (by omega : k = 0 ∨ k = 1 ∨ k = 2 ∨ k = 3) with rfl | rfl | rfl | rfl <;> rfl
theorem giveN_put {g : Gv} {v : api_Value} {k : Nat} (h : k < 4) (hp : (pget v (key4 k)).2 = true) : value_Put (giveN g v k).v (key4 k) (pget v (key4 k)).1 = some (giveN g v (k + 1)).v := by
  rcases (by omega : k = 0 ∨ k = 1 ∨ k = 2 ∨ k = 3) with rfl | rfl | rfl | rfl
  · simp only [key4] at hp ⊢; rw [put_R]; simp only [giveN, over, hp, if_true]
  · simp only [key4] at hp ⊢; rw [put_M]; simp only [giveN, over, hp, if_true]
  · simp only [key4] at hp ⊢; rw [put_C]; simp only [giveN, over, hp, if_true]
  · simp only [key4] at hp ⊢; rw [put_T]; simp only [giveN, Gv.give, over, hp, if_true]
theorem giveN_no {g : Gv} {v : api_Value} {k : Nat} (h : k < 4) (hp : (pget v (key4 k)).2 = false) : giveN g v (k + 1) = giveN g v k := by
  rcases (by omega : k = 0 ∨ k = 1 ∨ k = 2 ∨ k = 3) with rfl | rfl | rfl | rfl <;> simp only [key4] at hp <;> simp only [giveN, Gv.give, over, hp, Bool.false_eq_true, if_false]
theorem leaveN_put {g : Gv} {v : api_Value} {k : Nat} (h : k < 4) (hp : (pget v (key4 k)).2 = true) : value_Drop (leaveN g v k).v (key4 k) = some (leaveN g v (k + 1)).v := by
  rcases (by omega : k = 0 ∨ k = 1 ∨ k = 2 ∨ k = 3) with rfl | rfl | rfl | rfl
  · simp only [key4] at hp ⊢; rw [drop_R]; simp only [leaveN, lack, hp, if_true]
  · simp only [key4] at hp ⊢; rw [drop_M]; simp only [leaveN, lack, hp, if_true]
  · simp only [key4] at hp ⊢; rw [drop_C]; simp only [leaveN, lack, hp, if_true]
  · simp only [key4] at hp ⊢; rw [drop_T]; simp only [leaveN, Gv.leave, lack, hp, if_true]
theorem leaveN_no {g : Gv} {v : api_Value} {k : Nat} (h : k < 4) (hp : (pget v (key4 k)).2 = false) : leaveN g v (k + 1) = leaveN g v k := by
  rcases (by omega : k = 0 ∨ k = 1 ∨ k = 2 ∨ k = 3) with rfl | rfl | rfl | rfl <;> simp only [key4] at hp <;> simp only [leaveN, Gv.leave, lack, hp, Bool.false_eq_true, if_false]

theorem give_eq (g : Gv) (v : api_Value) (h : Small v) : tree_give g.v v = some (g.give v).v := by
  unfold tree_give tree_inherited
  rw [bnd_some]
  refine jn_of (iter_acc (o := (g.give v).v) 4 (fun k => (giveN g v k).v) rfl (by decide) (fun k hk => ?_) ?_) rfl
  · refine if_of (by show decide ((k : Int) < ((4 : Nat) : Int)) = true; simp; omega) (jn_of (need_of (by show 0 ≤ (k : Int) ∧ (k : Int) < ((4 : Nat) : Int); omega) ?_) rfl)
    change bnd (value_Get v (ix [kR, kM, kC, kT] (k : Int))) _ = _
    rw [ix_key4 hk, get_eq h, bnd_some]
    cases hp : (pget v (key4 k)).2 with
    | true =>
      refine if_of rfl ?_
      change bnd (value_Put _ (ix [kR, kM, kC, kT] (k : Int)) _) _ = _
      rw [ix_key4 hk, giveN_put hk hp, bnd_some]
    | false =>
      refine if_not (by simp) ?_
      rw [giveN_no hk hp]
  · exact if_not (by decide) rfl
theorem leaf_eq (n : Int) (page : api_Value) (path : List Int) (g : Gv) (h : Small page) : tree_leaf n page path g.v = some ⟨n, path, (g.leave page).v⟩ := by
  unfold tree_leaf tree_inherited
  rw [bnd_some]
  refine jn_of (iter_acc (o := (g.leave page).v) 4 (fun k => (leaveN g page k).v) rfl (by decide) (fun k hk => ?_) ?_) rfl
  · refine if_of (by show decide ((k : Int) < ((4 : Nat) : Int)) = true; simp; omega) (jn_of (need_of (by show 0 ≤ (k : Int) ∧ (k : Int) < ((4 : Nat) : Int); omega) ?_) rfl)
    change bnd (value_Get page (ix [kR, kM, kC, kT] (k : Int))) _ = _
    rw [ix_key4 hk, get_eq h, bnd_some]
    cases hp : (pget page (key4 k)).2 with
    | true =>
      refine if_of rfl ?_
      change bnd (value_Drop _ (ix [kR, kM, kC, kT] (k : Int))) _ = _
      rw [ix_key4 hk, leaveN_put hk hp, bnd_some]
    | false =>
      refine if_not (by simp) ?_
      rw [leaveN_no hk hp]
  · exact if_not (by decide) rfl
theorem dictOf_nil : value_DictOf ([] : List api_Value) = some (Gv.v ⟨none, none, none, none⟩) := by
  unfold value_DictOf
  rfl
end Go.AB
end

section
namespace Go.AB
open Go

/-- A loop that ends, step by step. -/
inductive Runs {S O : Type} (body : S → Option (S ⊕ O)) : Nat → S → O → Prop
  | stop {m : Nat} {s : S} {o : O} (h : body s = some (.inr o)) : Runs body (m + 1) s o
  | step {m : Nat} {s t : S} {o : O} (h : body s = some (.inl t)) (k : Runs body m t o) : Runs body (m + 1) s o
theorem Runs.iterN {S O : Type} {body : S → Option (S ⊕ O)} {m : Nat} {s : S} {o : O} (h : Runs body m s o) : ∀ n, m ≤ n → iterN body n s = some o := by
  induction h with
  | stop h =>
    intro n hn
    obtain ⟨k, rfl⟩ : ∃ k, n = k + 1 := ⟨n - 1, by omega⟩
    unfold AB.iterN; rw [h]
  | step h _ ih =>
    intro n hn
    obtain ⟨k, rfl⟩ : ∃ k, n = k + 1 := ⟨n - 1, by omega⟩
    unfold AB.iterN; rw [h]
    exact ih k (by omega)
theorem Runs.iter {S O : Type} {body : S → Option (S ⊕ O)} {m : Nat} {s : S} {o : O} (h : Runs body m s o) (hm : m ≤ 18446744073709551616) : iter body s = some o := h.iterN _ hm

theorem few_all (l : List api_Object) (most : Int) (hm : most ≤ 1000) : ∃ b, ref19_Few l most = some b ∧ (b = true → (l.length : Int) ≤ most ∧ ∀ o ∈ l, W 300 o.V) := by
  unfold ref19_Few
  by_cases hl : (l.length : Int) > most
  · rw [if_pos (by simpa using hl)]
    exact ⟨false, rfl, fun h => by cases h⟩
  rw [if_neg (by simpa using hl)]
  have key : ∃ o : Unit ⊕ Bool, iter (fun (k2 : Int) =>
          if decide (k2 < (l.length : Int)) then
            need (0 ≤ k2 ∧ k2 < l.length) <|
            bnd (ref14_Few (ix l k2) 300) fun r4 =>
            if !r4 then
              some (.inr (.inr false))
            else
              some (.inl (w64 (k2 + 1)))
          else
            some (.inr (.inl ()))) 0 = some o ∧ ((o = .inl () ∧ ∀ o ∈ l, W 300 o.V) ∨ o = .inr false) := by
    refine iter_inv (fun k => ∃ j : Nat, k = (j : Int) ∧ j ≤ l.length ∧ ∀ i (h : i < j) (h' : i < l.length), W 300 (l[i]).V) (fun k => ((l.length : Int) - k).toNat) _ ⟨0, rfl, Nat.zero_le _, fun i h => absurd h (Nat.not_lt_zero i)⟩ (by show ((l.length : Int) - 0).toNat < _; omega) ?_
    rintro k ⟨j, rfl, hj, hi⟩
    by_cases hjl : j < l.length
    · obtain ⟨b, h1, h2⟩ := ref14_Few_some (ix l (j : Int)) 300
      rw [if_pos (by simpa using hjl), need_pos ⟨by omega, by omega⟩, h1, bnd_some]
      cases b with
      | false => exact ⟨_, rfl, .inr rfl⟩
      | true =>
        refine ⟨_, rfl, ?_⟩
        show (∃ j' : Nat, w64 ((j : Int) + 1) = (j' : Int) ∧ _) ∧ _
        rw [w64_id (by omega) (by omega)]
        refine ⟨⟨j + 1, by omega, by omega, fun i h h' => ?_⟩, by omega⟩
        rcases Nat.lt_or_ge i j with hij | hij
        · exact hi i hij h'
        · have : i = j := by omega
          subst this
          rw [ix_nat hjl] at h2
          exact h2 rfl
    · rw [if_neg (by simpa using hjl)]
      refine ⟨_, rfl, .inl ⟨rfl, fun o ho => ?_⟩⟩
      obtain ⟨i, h, rfl⟩ := List.getElem_of_mem ho
      exact hi i (by omega) h
  obtain ⟨o, h1, h2⟩ := key
  rw [h1]
  rcases h2 with ⟨rfl, h2⟩ | rfl
  · exact ⟨true, rfl, fun _ => ⟨by omega, h2⟩⟩
  · exact ⟨false, rfl, fun h => by cases h⟩

def getO (d : api_Doc) (n : Int) : api_Object := if (decide (n < 1)) || (decide (n > (d.Objects.length : Int))) then zeroO else ix d.Objects (n - 1)
structure FewD (d : api_Doc) : Prop where
  len : d.Objects.length ≤ 1000
  w : ∀ o ∈ d.Objects, W 300 o.V
theorem FewD.get {d : api_Doc} (h : FewD d) (n : Int) : W 300 (getO d n).V := by
  unfold getO
  split
  · exact ⟨Nat.zero_le _, fun x hx => by cases hx⟩
  · rename_i hc
    simp at hc
    rw [ix_at (by omega)]
    exact h.w _ (List.getElem_mem _)
theorem FewD.small {d : api_Doc} (h : FewD d) (n : Int) : Small (getO d n).V := Small.of_W (h.get n) (by decide)
theorem Get_eq (f : file_File) (n : Int) (h : FewD f.get_) : file_File_Get f n = some (getO f.get_ n, 0, 0) := by
  have hl := h.len
  unfold file_File_Get file_File_is
  rw [bnd_some]
  refine if_not (by simp) ?_
  unfold file_Of_1 getO
  by_cases hc : ((decide (n < 1)) || (decide (n > (f.get_.Objects.length : Int)))) = true
  · rw [if_pos hc, if_pos hc]; rfl
  · rw [if_neg hc, if_neg hc]
    simp at hc
    rw [w64_id (by omega) (by omega), need_pos (by omega)]; rfl

def kPages : Str := Str.mk [80, 97, 103, 101, 115]
def kPage : Str := Str.mk [80, 97, 103, 101]
def kKids : Str := Str.mk [75, 105, 100, 115]
def kCount : Str := Str.mk [67, 111, 117, 110, 116]
def kType : Str := Str.mk [84, 121, 112, 101]
def kCatalog : Str := Str.mk [67, 97, 116, 97, 108, 111, 103]
def pTyped (o : api_Object) (name : Str) : Bool := (!o.Stream && ((pget o.V kType).1.Kind == 5)) && ((pget o.V kType).1.S.b == name.b)
theorem typed_p {o : api_Object} (h : Small o.V) (name : Str) : tree_typed o name = some (pTyped o name) := by
  unfold tree_typed
  rw [get_eq h, bnd_some]; rfl
theorem rtyped_p {o : api_Object} (h : Small o.V) (name : Str) : ref20_Typed o name = some (pTyped o name) := by
  obtain ⟨t, h1, h2⟩ := typed_eq o name h
  rw [typed_p h] at h1
  injection h1 with h1
  rw [h2, h1]
def kidsV (o : api_Object) : api_Value := (pget o.V kKids).1
def countO (o : api_Object) : Int := (pget o.V kCount).1.N
def kidsO (o : api_Object) : List Int := nums (kidsV o).L
def badNode (o : api_Object) : Bool := ((!pTyped o kPages || ((kidsV o).Kind != 6)) || (((kidsV o).L.length : Int) == 0)) || ((pget o.V kCount).1.Kind != 2)
def isNode (o : api_Object) : Bool := !badNode o && (allRef (kidsV o).L && (decide (countO o ≥ ((kidsV o).L.length : Int)) && decide (countO o ≤ 2048)))
def nodeAt (n : Int) (o : api_Object) : tree_node := ⟨n, o.V, kidsO o, countO o⟩
theorem kidsO_len (o : api_Object) : (kidsO o).length = (kidsV o).L.length := by unfold kidsO nums; simp
theorem isNode_facts {o : api_Object} (h : isNode o = true) : 0 < (kidsO o).length ∧ ((kidsO o).length : Int) ≤ countO o ∧ countO o ≤ 2048 := by
  unfold isNode badNode at h
  simp at h
  obtain ⟨⟨⟨⟨_, _⟩, h1⟩, _⟩, _, h2, h3⟩ := h
  rw [kidsO_len]
  have : (kidsV o).L.length ≠ 0 := fun e => h1 (List.eq_nil_of_length_eq_zero e)
  exact ⟨by omega, h2, h3⟩
theorem nodeOf_eq (n : Int) (o : api_Object) (hw : W 300 o.V) : ∃ x, tree_nodeOf n o = some (x, isNode o) ∧ (isNode o = true → x = nodeAt n o) := by
  have hs := Small.of_W hw (by decide)
  have hL : ((pget o.V kKids).1.L.length : Int) ≤ 299 := Get_W (n := 299) hw (get_eq hs kKids)
  obtain ⟨x, hx, hcase⟩ := loop_node (pget o.V kKids).1.L n 0 o.V (by omega)
  unfold tree_nodeOf
  rw [show value_Get o.V (Str.mk [75, 105, 100, 115]) = _ from get_eq hs kKids, show value_Get o.V (Str.mk [67, 111, 117, 110, 116]) = _ from get_eq hs kCount, show tree_typed o (Str.mk [80, 97, 103, 101, 115]) = _ from typed_p hs kPages]
  simp only [bnd_some]
  by_cases hb : badNode o = true
  · have hn : isNode o = false := by unfold isNode; rw [hb]; rfl
    refine ⟨⟨n, o.V, [], 0⟩, ?_, fun h => by rw [hn] at h; cases h⟩
    rw [hn]; exact if_of hb rfl
  · have hb' : badNode o = false := by simpa using hb
    rcases hcase with ⟨ha, rfl⟩ | ⟨ha, z, rfl⟩
    · refine ⟨nodeAt n o, if_not hb ?_, fun _ => rfl⟩
      rw [hx]
      have hn : isNode o = (decide (countO o ≥ ((kidsV o).L.length : Int)) && decide (countO o ≤ 2048)) := by
        unfold isNode
        rw [hb', show allRef (kidsV o).L = true from ha]; rfl
      rw [hn, ← kidsO_len]
      rfl
    · have hn : isNode o = false := by
        unfold isNode
        rw [show allRef (kidsV o).L = false from ha]; simp
      refine ⟨z, if_not hb ?_, fun h => by rw [hn] at h; cases h⟩
      rw [hx, hn]
      rfl
def zeroN : tree_node := tree_node.mk 0 (api_Value.mk 0 0 (Str.mk []) ([] : List api_Value)) ([] : List Int) 0
theorem ask_eq (f : file_File) (n : Int) (h : FewD f.get_) : tree_ask f n = some (if isNode (getO f.get_ n) then (nodeAt n (getO f.get_ n), 0, 0) else (zeroN, 0, 24)) := by
  obtain ⟨x, h1, h2⟩ := nodeOf_eq n (getO f.get_ n) (h.get n)
  unfold tree_ask
  rw [Get_eq f n h, bnd_some]
  refine if_not (by simp) ?_
  rw [h1, bnd_some]
  cases hi : isNode (getO f.get_ n) with
  | true => rw [h2 hi]; rfl
  | false => rfl

/-- From which kid on. -/
def pick (d : api_Doc) : List Int → Int → Option (Int × Int)
  | [], _ => none
  | m :: l, p => if isNode (getO d m) = true then (if p < countO (getO d m) then some (m, p) else pick d l (p - countO (getO d m))) else none
abbrev zeroL : tree_Leaf := tree_Leaf.mk 0 ([] : List Int) (api_Value.mk 0 0 (Str.mk []) ([] : List api_Value))
def pdown (d : api_Doc) : Nat → Int → Int → List Int → Gv → tree_Leaf × Int
  | 0, _, _, _, _ => (zeroL, 24)
  | k + 1, n, p, path, g =>
    if countO (getO d n) = ((kidsO (getO d n)).length : Int) then
      if pTyped (getO d (ix (kidsO (getO d n)) p)) kPage = true then
        (⟨ix (kidsO (getO d n)) p, path ++ [n], ((g.give (getO d n).V).leave (getO d (ix (kidsO (getO d n)) p)).V).v⟩, 0)
      else if isNode (getO d (ix (kidsO (getO d n)) p)) = true ∧ countO (getO d (ix (kidsO (getO d n)) p)) = 1 then
        pdown d k (ix (kidsO (getO d n)) p) 0 (path ++ [n]) (g.give (getO d n).V)
      else (zeroL, 24)
    else match pick d (kidsO (getO d n)) p with
      | none => (zeroL, 24)
      | some (m, q) => pdown d k m q (path ++ [n]) (g.give (getO d n).V)

theorem pick_some {d : api_Doc} : ∀ {l : List Int} {p m q : Int}, 0 ≤ p → pick d l p = some (m, q) → m ∈ l ∧ isNode (getO d m) = true ∧ 0 ≤ q ∧ q < countO (getO d m)
  | [], _, _, _, _, h => by cases h
  | a :: l, p, m, q, h0, h => by
    unfold pick at h
    split at h
    · rename_i hn
      split at h
      · rename_i hp
        injection h with h; injection h with h1 h2
        subst h1; subst h2
        exact ⟨List.mem_cons_self, hn, h0, hp⟩
      · obtain ⟨h1, h2⟩ := pick_some (by omega) h
        exact ⟨List.mem_cons_of_mem _ h1, h2⟩
    · cases h
end Go.AB
end

section
namespace Go.AB
open Go

def pickBody (f_0 : file_File) (kids : List Int) : Int × Int → Option ((Int × Int) ⊕ ((Int × tree_node) ⊕ (Unit ⊕ (Int × Int)))) :=
  (fun ((p49, t50) : Int × Int) =>
    if decide (t50 < (kids.length : Int)) then
      need (0 ≤ t50 ∧ t50 < kids.length) <|
      bnd (tree_ask f_0 (ix kids t50)) fun r64 =>
      if r64.2.2 != 0 then
        some (.inr (.inr (.inr (r64.2.1, r64.2.2))))
      else
        if decide (p49 < r64.1.count_) then
          some (.inr (.inl (p49, r64.1)))
        else
          some (.inl (w64 (p49 - r64.1.count_), w64 (t50 + 1)))
    else
      some (.inr (.inr (.inl ()))))
def findBody (f_0 : file_File) : Int × tree_node × (List Int) × api_Value × Int → Option ((Int × tree_node × (List Int) × api_Value × Int) ⊕ (Unit ⊕ (tree_Leaf × Int × Int))) :=
  (fun ((p9, x10, path11, given12, t13) : Int × tree_node × (List Int) × api_Value × Int) =>
    if decide (t13 < 64) then
      jnS (
        need ((path11.length + [x10.n_].length) * 8 ≤ room) <|
        bnd (tree_give given12 x10.v_) fun r31 =>
        if x10.count_ == (x10.kids_.length : Int) then
          need (0 ≤ p9 ∧ p9 < x10.kids_.length) <|
          bnd (file_File_Get f_0 (ix x10.kids_ p9)) fun r32 =>
          if r32.2.2 != 0 then
            some (.inr ((tree_Leaf.mk 0 ([] : List Int) (api_Value.mk 0 0 (Str.mk []) ([] : List api_Value))), r32.2.1, r32.2.2))
          else
            bnd (tree_Page r32.1) fun r33 =>
            if r33 then
              bnd (tree_leaf (ix x10.kids_ p9) r32.1.V (path11 ++ [x10.n_]) r31) fun r34 =>
              some (.inr (r34, (0 : Int), (0 : Int)))
            else
              bnd (tree_nodeOf (ix x10.kids_ p9) r32.1) fun r35 =>
              if !r35.2 || (r35.1.count_ != 1) then
                some (.inr ((tree_Leaf.mk 0 ([] : List Int) (api_Value.mk 0 0 (Str.mk []) ([] : List api_Value))), (0 : Int), (24 : Int)))
              else
                some (.inl ((0 : Int), r35.1, path11 ++ [x10.n_], r31))
        else
          jnS (
            bndS (
              iter (pickBody f_0 x10.kids_) (p9, 0)) (fun ((p51, x53) : Int × tree_node) =>
              some (.inr (.inl (p51, x53))))
            (caseS (fun (_ : Unit) => some (.inl ())) (fun ((t61, t62) : Int × Int) => some (.inr (.inr (t61, t62)))))) (fun (_ : Unit) =>
            some (.inr ((tree_Leaf.mk 0 ([] : List Int) (api_Value.mk 0 0 (Str.mk []) ([] : List api_Value))), (0 : Int), (24 : Int))))
          (caseS (fun ((p38, x40) : Int × tree_node) => some (.inl (p38, x40, path11 ++ [x10.n_], r31))) (fun ((t46, t47) : Int × Int) => some (.inr ((tree_Leaf.mk 0 ([] : List Int) (api_Value.mk 0 0 (Str.mk []) ([] : List api_Value))), t46, t47))))) (fun ((p20, x22, path23, given24) : Int × tree_node × (List Int) × api_Value) =>
        some (.inl (p20, x22, path23, given24, w64 (t13 + 1))))
      (fun ((t27, t28, t29) : tree_Leaf × Int × Int) => some (.inr (.inr (t27, t28, t29))))
    else
      some (.inr (.inl ())))

/-- The place of a page in an object's kids, as the loop finds it. -/
def pickRes (d : api_Doc) : Option (Int × Int) → (Int × tree_node) ⊕ (Unit ⊕ (Int × Int)) → Prop
  | some (m, q), o => o = .inl (q, nodeAt m (getO d m))
  | none, o => o = .inr (.inl ()) ∨ o = .inr (.inr (0, 24))
theorem pick_runs (f : file_File) (h : FewD f.get_) (kids : List Int) (hk : kids.length ≤ 1000) : ∀ (r j : Nat) (p : Int), j + r = kids.length → 0 ≤ p → p ≤ 4611686018427387904 →
    ∃ o, Runs (pickBody f kids) (r + 1) (p, (j : Int)) o ∧ pickRes f.get_ (pick f.get_ (kids.drop j) p) o := by
  intro r
  induction r with
  | zero =>
    intro j p hj h0 h1
    refine ⟨.inr (.inl ()), .stop ?_, ?_⟩
    · exact if_not (by simp; omega) rfl
    · rw [List.drop_eq_nil_of_le (by omega)]; exact .inl rfl
  | succ r ih =>
    intro j p hj h0 h1
    have hjl : j < kids.length := by omega
    have hd : kids.drop j = kids[j] :: kids.drop (j + 1) := List.drop_eq_getElem_cons hjl
    have hx : ix kids (j : Int) = kids[j] := ix_nat hjl
    have step : ∀ o, (bnd (tree_ask f (ix kids (j : Int))) fun r64 =>
          if r64.2.2 != 0 then some (.inr (.inr (.inr (r64.2.1, r64.2.2))))
          else if decide (p < r64.1.count_) then some (.inr (.inl (p, r64.1)))
            else some (.inl (w64 (p - r64.1.count_), w64 ((j : Int) + 1)))) = o → pickBody f kids (p, (j : Int)) = o := fun o ho =>
      if_of (by simp; omega) (need_of ⟨by omega, by omega⟩ ho)
    rw [hx, ask_eq f _ h, bnd_some] at step
    rw [hd]
    unfold pick
    cases hi : isNode (getO f.get_ kids[j]) with
    | false =>
      rw [hi] at step
      refine ⟨.inr (.inr (0, 24)), Runs.stop (step _ rfl), .inr rfl⟩
    | true =>
      rw [hi] at step
      have hf := isNode_facts hi
      simp only [if_true] at step ⊢
      by_cases hp : p < countO (getO f.get_ kids[j])
      · rw [if_pos hp]
        refine ⟨.inl (p, nodeAt kids[j] (getO f.get_ kids[j])), Runs.stop (step _ ?_), rfl⟩
        exact if_not (by simp) (if_of (decide_eq_true hp) rfl)
      · rw [if_neg hp]
        obtain ⟨o, h2, h3⟩ := ih (j + 1) (p - countO (getO f.get_ kids[j])) (by omega) (by omega) (by omega)
        refine ⟨o, .step (step _ ?_) h2, h3⟩
        refine if_not (by simp) (if_not (fun hc => hp (of_decide_eq_true hc)) ?_)
        show some (Sum.inl (w64 (p - countO (getO f.get_ kids[j])), w64 ((j : Int) + 1))) = _
        rw [w64_id (by omega) (by omega), w64_id (by omega) (by omega)]
        rfl
theorem find_eq0 (f_0 : file_File) (p_1 : Int) : tree_Find f_0 p_1 = (bnd (tree_top f_0) fun r1 =>
  if r1.2.2 != 0 then
    some ((tree_Leaf.mk 0 ([] : List Int) (api_Value.mk 0 0 (Str.mk []) ([] : List api_Value))), r1.2.1, r1.2.2)
  else
    if (decide (p_1 < 0)) || (decide (p_1 ≥ r1.1.count_)) then
      some ((tree_Leaf.mk 0 ([] : List Int) (api_Value.mk 0 0 (Str.mk []) ([] : List api_Value))), 0, 25)
    else
      bnd (value_DictOf ([] : List api_Value)) fun r2 =>
      jnS (
        bndS (iter (findBody f_0) (p_1, r1.1, ([] : List Int), r2, 0)) (fun (_ : Unit) =>
          some (.inl ()))
        (fun ((t16, t17, t18) : tree_Leaf × Int × Int) => some (.inr (t16, t17, t18)))) (fun (_ : Unit) =>
        some ((tree_Leaf.mk 0 ([] : List Int) (api_Value.mk 0 0 (Str.mk []) ([] : List api_Value))), 0, 24))
      (fun ((t5, t6, t7) : tree_Leaf × Int × Int) => some (t5, t6, t7))) := rfl

/-- What the loop hands on. -/
def finL : Unit ⊕ (tree_Leaf × Int × Int) → tree_Leaf × Int × Int
  | .inl () => (zeroL, 0, 24)
  | .inr x => x
theorem kidsO_le {o : api_Object} (hw : W 300 o.V) : (kidsO o).length ≤ 299 := by
  have hL : ((pget o.V kKids).1.L.length : Int) ≤ 299 := Get_W (n := 299) hw (get_eq (Small.of_W hw (by decide)) kKids)
  rw [kidsO_len]
  unfold kidsV; omega
theorem page_eq {o : api_Object} (h : Small o.V) : tree_Page o = some (pTyped o kPage) := by
  unfold tree_Page
  rw [show tree_typed o (Str.mk [80, 97, 103, 101]) = _ from typed_p h kPage]; rfl
theorem down_runs (f : file_File) (h : FewD f.get_) : ∀ (k t : Nat) (n p : Int) (path : List Int) (g : Gv), t + k = 64 → path.length = t → isNode (getO f.get_ n) = true → 0 ≤ p → p < countO (getO f.get_ n) →
    ∃ o, Runs (findBody f) (k + 1) (p, nodeAt n (getO f.get_ n), path, g.v, (t : Int)) o ∧ finL o = ((pdown f.get_ k n p path g).1, 0, (pdown f.get_ k n p path g).2) := by
  intro k
  induction k with
  | zero =>
    intro t n p path g ht hpl hi h0 h1
    exact ⟨.inl (), .stop (if_not (by simp; omega) rfl), rfl⟩
  | succ k ih =>
    intro t n p path g ht hpl hi h0 h1
    have hs := h.small n
    have hf := isNode_facts hi
    have hroom := room_ge
    have hgo : ∀ {n' p' : Int} {o}, findBody f (p, nodeAt n (getO f.get_ n), path, g.v, (t : Int)) = some (.inl (p', nodeAt n' (getO f.get_ n'), path ++ [n], (g.give (getO f.get_ n).V).v, w64 ((t : Int) + 1))) →
        isNode (getO f.get_ n') = true → 0 ≤ p' → p' < countO (getO f.get_ n') → (pdown f.get_ k n' p' (path ++ [n]) (g.give (getO f.get_ n).V)) = o →
        ∃ o', Runs (findBody f) (k + 1 + 1) (p, nodeAt n (getO f.get_ n), path, g.v, (t : Int)) o' ∧ finL o' = (o.1, 0, o.2) := by
      intro n' p' o e1 e2 e3 e4 e5
      obtain ⟨o', k1, k2⟩ := ih (t + 1) n' p' (path ++ [n]) (g.give (getO f.get_ n).V) (by omega) (by simp; omega) e2 e3 e4
      refine ⟨o', .step (t := (p', nodeAt n' (getO f.get_ n'), path ++ [n], (g.give (getO f.get_ n).V).v, ((t + 1 : Nat) : Int))) ?_ k1, by rw [k2, e5]⟩
      rw [e1, w64_id (by omega) (by omega)]; rfl
    unfold pdown
    by_cases hc : countO (getO f.get_ n) = ((kidsO (getO f.get_ n)).length : Int)
    · rw [if_pos hc]
      have hm := h.small (ix (kidsO (getO f.get_ n)) p)
      generalize hmm : ix (kidsO (getO f.get_ n)) p = m at *
      have hx : file_File_Get f (ix (nodeAt n (getO f.get_ n)).kids_ p) = some (getO f.get_ m, 0, 0) := by
        rw [show ix (nodeAt n (getO f.get_ n)).kids_ p = m from hmm]; exact Get_eq f m h
      by_cases hp : pTyped (getO f.get_ m) kPage = true
      · rw [if_pos hp]
        refine ⟨.inr (⟨m, path ++ [n], ((g.give (getO f.get_ n).V).leave (getO f.get_ m).V).v⟩, 0, 0), .stop ?_, rfl⟩
        refine if_of (by simp; omega) ?_
        refine jnS_of (need_of (by simp; omega) (bnd_of (give_eq g _ hs) (if_of (by simp [nodeAt, hc]) (need_of (by show 0 ≤ p ∧ p < ((kidsO (getO f.get_ n)).length : Int); omega) (bnd_of hx (if_not (by simp) (bnd_of (page_eq hm) (if_of hp (bnd_of (by
          rw [show ix (nodeAt n (getO f.get_ n)).kids_ p = m from hmm]; exact leaf_eq _ _ _ _ hm) rfl))))))))) rfl
      · rw [if_neg hp]
        obtain ⟨x, e1, e2⟩ := nodeOf_eq m (getO f.get_ m) (h.get m)
        have e1' : tree_nodeOf (ix (nodeAt n (getO f.get_ n)).kids_ p) (getO f.get_ m) = some (x, isNode (getO f.get_ m)) := by
          rw [show ix (nodeAt n (getO f.get_ n)).kids_ p = m from hmm]; exact e1
        have go : ∀ {z : (Int × tree_node × (List Int) × api_Value) ⊕ (tree_Leaf × Int × Int)} {r}, (if !(isNode (getO f.get_ m)) || (x.count_ != 1) then some (.inr (zeroL, (0 : Int), (24 : Int))) else some (.inl ((0 : Int), x, path ++ [n], (g.give (getO f.get_ n).V).v))) = some z →
            (match z with | .inl (p20, x22, path23, given24) => some (.inl (p20, x22, path23, given24, w64 ((t : Int) + 1))) | .inr (t27, t28, t29) => some (.inr (.inr (t27, t28, t29)))) = r → findBody f (p, nodeAt n (getO f.get_ n), path, g.v, (t : Int)) = r := by
          intro z r hz hr
          refine if_of (by simp; omega) (jnS_of (z := z) (need_of (by simp; omega) (bnd_of (give_eq g _ hs) (if_of (by simp [nodeAt, hc]) (need_of (by show 0 ≤ p ∧ p < ((kidsO (getO f.get_ n)).length : Int); omega) (bnd_of hx (if_not (by simp) (bnd_of (page_eq hm) (if_not hp (bnd_of e1' hz))))))))) ?_)
          rw [← hr]
          cases z <;> rfl
        by_cases hq : isNode (getO f.get_ m) = true ∧ countO (getO f.get_ m) = 1
        · rw [if_pos hq]
          have hxx := e2 hq.1
          subst hxx
          exact hgo (go (if_not (by simp [hq.1, nodeAt, hq.2]) rfl) rfl) hq.1 (Int.le_refl 0) (by rw [hq.2]; decide) rfl
        · rw [if_neg hq]
          refine ⟨.inr (zeroL, 0, 24), .stop (go (z := .inr (zeroL, 0, 24)) (if_of ?_ rfl) rfl), rfl⟩
          cases hm1 : isNode (getO f.get_ m) with
          | false => rfl
          | true =>
            have := e2 hm1
            subst this
            have hne : countO (getO f.get_ m) ≠ 1 := fun e => hq ⟨hm1, e⟩
            simpa [nodeAt] using hne
    · rw [if_neg hc]
      obtain ⟨o, k1, k2⟩ := pick_runs f h (kidsO (getO f.get_ n)) (by have := kidsO_le (h.get n); omega) (kidsO (getO f.get_ n)).length 0 p (by omega) h0 (by omega)
      rw [List.drop_zero] at k2
      have k3 := k1.iter (by omega)
      have go : ∀ {z : (Int × tree_node × (List Int) × api_Value) ⊕ (tree_Leaf × Int × Int)} {r},
          (jnS (bndS (some o) (fun ((p51, x53) : Int × tree_node) => some (.inr (.inl (p51, x53)))) (caseS (fun (_ : Unit) => some (.inl ())) (fun ((t61, t62) : Int × Int) => some (.inr (.inr (t61, t62)))))) (fun (_ : Unit) => some (.inr (zeroL, (0 : Int), (24 : Int))))
            (caseS (fun ((p38, x40) : Int × tree_node) => some (.inl (p38, x40, path ++ [n], (g.give (getO f.get_ n).V).v))) (fun ((t46, t47) : Int × Int) => some (.inr (zeroL, t46, t47))))) = some z →
          (match z with | .inl (p20, x22, path23, given24) => some (.inl (p20, x22, path23, given24, w64 ((t : Int) + 1))) | .inr (t27, t28, t29) => some (.inr (.inr (t27, t28, t29)))) = r → findBody f (p, nodeAt n (getO f.get_ n), path, g.v, (t : Int)) = r := by
        intro z r hz hr
        refine if_of (by simp; omega) (jnS_of (z := z) (need_of (by simp; omega) (bnd_of (give_eq g _ hs) (if_not (by simpa [nodeAt] using hc) ?_))) ?_)
        · rw [← hz, ← k3]; rfl
        · rw [← hr]
          cases z <;> rfl
      cases hpk : pick f.get_ (kidsO (getO f.get_ n)) p with
      | none =>
        rw [hpk] at k2
        refine ⟨.inr (zeroL, 0, 24), .stop (go (z := .inr (zeroL, 0, 24)) ?_ rfl), rfl⟩
        rcases k2 with rfl | rfl <;> rfl
      | some mq =>
        obtain ⟨m, q⟩ := mq
        obtain ⟨_, p2, p3, p4⟩ := pick_some h0 hpk
        rw [hpk] at k2
        have k2' : o = .inl (q, nodeAt m (getO f.get_ m)) := k2
        subst k2'
        exact hgo (go (z := .inl (q, nodeAt m (getO f.get_ m), path ++ [n], (g.give (getO f.get_ n).V).v)) rfl rfl) p2 p3 p4 rfl
def isRoot (o : api_Object) : Bool := pTyped o kCatalog && ((pget o.V kPages).1.Kind == 8)
def topN (f : file_File) : Int := (pget (getO f.get_ f.root_).V kPages).1.N
theorem top_eq (f : file_File) (h : FewD f.get_) : tree_top f = some (if isRoot (getO f.get_ f.root_) then (if isNode (getO f.get_ (topN f)) then (nodeAt (topN f) (getO f.get_ (topN f)), 0, 0) else (zeroN, 0, 24)) else (zeroN, 0, 23)) := by
  have hs := h.small f.root_
  unfold tree_top file_File_Root file_File_is
  simp only [bnd_some]
  rw [show (!(true || false)) = false from rfl]
  simp only [Bool.false_eq_true, if_false, bnd_some]
  rw [Get_eq f _ h, bnd_some]
  refine if_not (by simp) ?_
  have hr : tree_Root (getO f.get_ f.root_) = some (if isRoot (getO f.get_ f.root_) then (topN f, true) else (0, false)) := by
    unfold tree_Root
    rw [show value_Get (getO f.get_ f.root_).V (Str.mk [80, 97, 103, 101, 115]) = _ from get_eq hs kPages, show tree_typed (getO f.get_ f.root_) (Str.mk [67, 97, 116, 97, 108, 111, 103]) = _ from typed_p hs kCatalog]
    simp only [bnd_some]
    unfold isRoot
    cases pTyped (getO f.get_ f.root_) kCatalog <;> cases hk : ((pget (getO f.get_ f.root_).V kPages).1.Kind == 8) <;> simp [bne, hk, topN]
  rw [hr, bnd_some]
  cases isRoot (getO f.get_ f.root_) with
  | false => rfl
  | true =>
    simp only [if_true, Bool.not_true, Bool.false_eq_true, if_false]
    rw [ask_eq f _ h, bnd_some]
/-- A page's leaf, of a Doc. -/
def pFind (f : file_File) (p : Int) : tree_Leaf × Int :=
  if isRoot (getO f.get_ f.root_) = true then
    if isNode (getO f.get_ (topN f)) = true then
      if 0 ≤ p ∧ p < countO (getO f.get_ (topN f)) then pdown f.get_ 64 (topN f) p [] ⟨none, none, none, none⟩ else (zeroL, 25)
    else (zeroL, 24)
  else (zeroL, 23)
theorem find_eq (f : file_File) (p : Int) (h : FewD f.get_) : tree_Find f p = some ((pFind f p).1, 0, (pFind f p).2) := by
  rw [find_eq0, top_eq f h, bnd_some]
  unfold pFind
  cases isRoot (getO f.get_ f.root_) with
  | false => rfl
  | true =>
    cases hn : isNode (getO f.get_ (topN f)) with
    | false => rfl
    | true =>
      simp only [if_true]
      refine if_not (by simp) ?_
      by_cases hp : 0 ≤ p ∧ p < countO (getO f.get_ (topN f))
      · rw [if_pos hp]
        refine if_not (by simp [nodeAt]; omega) (bnd_of dictOf_nil ?_)
        obtain ⟨o, k1, k2⟩ := down_runs f h 64 0 (topN f) p [] ⟨none, none, none, none⟩ rfl rfl hn hp.1 hp.2
        have k3 := k1.iter (by decide)
        rw [← k2]
        have e : ∀ (o : Unit ⊕ (tree_Leaf × Int × Int)), (jnS (bndS (some o) (fun (_ : Unit) => some (.inl ())) (fun ((t16, t17, t18) : tree_Leaf × Int × Int) => some (.inr (t16, t17, t18)))) (fun (_ : Unit) => some ((tree_Leaf.mk 0 ([] : List Int) (api_Value.mk 0 0 (Str.mk []) ([] : List api_Value))), 0, 24)) (fun ((t5, t6, t7) : tree_Leaf × Int × Int) => some (t5, t6, t7))) = some (finL o) := fun o => by
          cases o <;> rfl
        rw [show iter (findBody f) (p, nodeAt (topN f) (getO f.get_ (topN f)), ([] : List Int), Gv.v ⟨none, none, none, none⟩, 0) = some o from k3]
        rw [e, k2]
      · rw [if_neg hp]
        exact if_of (by simp [nodeAt]; omega) rfl
end Go.AB
end

section
set_option maxRecDepth 4000
namespace Go.AB
open Go Go.RowKit
theorem cmpString_calls (a b : ByteArray) (w : World) : Calls Go.Proofs.Try.prog 125 #[.string a, .string b] w fun e w' => e = .returned (.int .i64 (Lib.compareBytes a.data.toList b.data.toList)) ∧ w' = w := by
  have mixed := mix
  have t3 : Go.Proofs.Try.prog.underlying 3 = some (.int .i64) := by kernel_rfl
  have u3 := run_underlying t3
  have t9 : Go.Proofs.Try.prog.underlying 9 = some .string := by kernel_rfl
  have u9 := run_underlying t9
  go_enter Go.Proofs.Try.func125, (show Go.Proofs.Try.f125.ntmps = 8 from rfl)
  go_wp2
  rw [run_callFunc_extern Go.Proofs.Try.func135 (by kernel_rfl) (by kernel_rfl) (by kernel_rfl) (e := Extern.BytealgCompare.compare) (by kernel_rfl), Lib.run_compareString]
  simp only [Result.andThen]
  rw [Oper.upon_value]
  go_wp2
  go_ret
  exact ⟨rfl, rfl⟩
def cmpString (a b : Str) : Option Int := some (Lib.compareBytes a.b b.b)
theorem cmpString_fn {a b : Str} {s : Store} {Q : List AV → Store → Prop} (h : ok (cmpString a b) fun r => Q [.int .i64 r] s) : FN Go.Proofs.Try.prog 125 [.str a.b, .str b.b] s Q := by
  unfold cmpString at h
  rw [ok_some] at h
  intro G w vs h1 h2 h3 h4
  obtain ⟨hl, hr⟩ := h4
  have e0 : ∃ v0 v1, vs = #[v0, v1] ∧ VR w G.R (.str a.b) v0 ∧ VR w G.R (.str b.b) v1 := by
    obtain ⟨l⟩ := vs
    match l, hl with
    | [v0, v1], _ => exact ⟨v0, v1, rfl, hr 0 _ _ rfl rfl, hr 1 _ _ rfl rfl⟩
    | [], hl => simp at hl
    | [_], hl => simp at hl
    | _ :: _ :: _ :: _, hl => simp at hl
  obtain ⟨v0, v1, rfl, k0, k1⟩ := e0
  rw [VR.inv_str k0, VR.inv_str k1]
  refine (cmpString_calls _ _ w).mono fun e w' ⟨he, hw⟩ => ?_
  subst hw
  exact ⟨_, _, s, G, he, h, h1, h3, ⟨.int _ _, trivial⟩, Pres.refl G w'⟩
theorem cmpString_fe {a b : Str} {s : Store} {r : Int} (h : cmpString a b = some r) : FE Go.Proofs.Try.prog 125 [.str a.b, .str b.b] s [.int .i64 r] s := cmpString_fn ⟨r, h, rfl, rfl⟩

/-- cmp.isNaN[int] -/
def cmp_isNaNint (x_0 : Int) : Option (Bool) :=
  some (x_0 != x_0)
def ir_cmp_isNaNint : IC :=
 (.seq (.reg none [i1 2 (.mov false (.c (.bool false)))] [0])
 (.seq (.reg none [mv 3 0,
 mv 4 0,
 i1 5 (.bin .neq (.t 3) (.t 4)),
 mv 2 5] [2])
 .ret))
def res_cmp_isNaNint : List IRes := [⟨2, true, none⟩]
theorem is_cmp_isNaNint : fnIs Go.Proofs.Try.prog 124 6 res_cmp_isNaNint ir_cmp_isNaNint = true := by kernel_rfl
theorem cmp_isNaNint_fn {x_0} {s : Store} {Q : List AV → Store → Prop}  : ok (cmp_isNaNint x_0) (fun r => Q [.bool r] s) → FN Go.Proofs.Try.prog 124 [.int .i64 x_0] s Q := by
  intro h
  refine FN.of (draw_ok mix) is_cmp_isNaNint rfl (Nat.le_of_ble_eq_true rfl) ?_
  revert h
  rw [ir_cmp_isNaNint, res_cmp_isNaNint, cmp_isNaNint]
  repeat' (first
    | with_reducible exact tt_to
    | with_reducible refine and_to ?_ ?_
    | with_reducible refine im_to ?_
    | simp -implicitDefEqProofs only [go_sem, start, startE, resVs, resV, resC, allV, retK, Nat.reduceBEq, Nat.reduceAdd, Nat.reduceMul, Nat.reduceLeDiff, Nat.reduceEqDiff, Nat.reduceBNe, Nat.ble_eq, UInt8.reduceToNat])
theorem cmp_isNaNint_fe {x_0} {s : Store} {r : Bool}  (h : cmp_isNaNint x_0 = some r) : FE Go.Proofs.Try.prog 124 [.int .i64 x_0] s [.bool r] s := cmp_isNaNint_fn   ⟨r, h, rfl, rfl⟩
/-- cmp.Compare[int] -/
def cmp_Compareint (x_0 : Int) (y_1 : Int) : Option (Int) :=
  bnd (cmp_isNaNint x_0) fun r1 =>
  bnd (cmp_isNaNint y_1) fun r2 =>
  if r1 then
    if r2 then
      some 0
    else
      some (-1)
  else
    if r2 then
      some 1
    else
      if decide (x_0 < y_1) then
        some (-1)
      else
        if decide (x_0 > y_1) then
          some 1
        else
          some 0
def ir_cmp_Compareint : IC :=
 (.seq (.reg none [i1 4 (.mov false (.c (.int .i64 0)))] [0, 1])
 (.seq (.reg none [mv 7 0,
 i1 8 (.call 124 [(.t 7)]),
 mv 5 8] [0, 1, 5])
 (.seq (.reg none [mv 9 1,
 i1 10 (.call 124 [(.t 9)]),
 mv 6 10] [0, 1, 5, 6])
 (.seq (.seq (.reg none [mv 11 5] [0, 1, 6, 11])
 (.cond (.t 11) (.seq (.seq (.reg none [mv 12 6] [12])
 (.cond (.t 12) (.seq (.reg none [i1 4 (.mov false (.c (.int .i64 0)))] [4])
 .ret)
 .skip))
 (.seq (.reg none [i1 4 (.mov false (.c (.int .i64 (-1))))] [4])
 .ret))
 .skip))
 (.seq (.seq (.reg none [mv 13 6] [0, 1, 13])
 (.cond (.t 13) (.seq (.reg none [i1 4 (.mov false (.c (.int .i64 1)))] [4])
 .ret)
 .skip))
 (.seq (.seq (.reg none [mv 14 0,
 mv 15 1,
 i1 16 (.bin .lss (.t 14) (.t 15))] [0, 1, 16])
 (.cond (.t 16) (.seq (.reg none [i1 4 (.mov false (.c (.int .i64 (-1))))] [4])
 .ret)
 .skip))
 (.seq (.seq (.reg none [mv 17 0,
 mv 18 1,
 i1 19 (.bin .gtr (.t 17) (.t 18))] [19])
 (.cond (.t 19) (.seq (.reg none [i1 4 (.mov false (.c (.int .i64 1)))] [4])
 .ret)
 .skip))
 (.seq (.reg none [i1 4 (.mov false (.c (.int .i64 0)))] [4])
 .ret))))))))
def res_cmp_Compareint : List IRes := [⟨4, true, none⟩]
theorem is_cmp_Compareint : fnIs Go.Proofs.Try.prog 106 20 res_cmp_Compareint ir_cmp_Compareint = true := by kernel_rfl
theorem cmp_Compareint_fn {x_0 y_1} {s : Store} {Q : List AV → Store → Prop}  : ok (cmp_Compareint x_0 y_1) (fun r => Q [.int .i64 r] s) → FN Go.Proofs.Try.prog 106 [.int .i64 x_0, .int .i64 y_1] s Q := by
  intro h
  refine FN.of (draw_ok mix) is_cmp_Compareint rfl (Nat.le_of_ble_eq_true rfl) ?_
  revert h
  rw [ir_cmp_Compareint, res_cmp_Compareint, cmp_Compareint]
  repeat' (first
    | with_reducible exact tt_to
    | with_reducible refine and_to ?_ ?_
    | with_reducible refine im_to ?_
    | with_reducible refine call_to (fun _ (h : cmp_isNaNint x_0 = some _) => cmp_isNaNint_fe h) (fun r1 => ?_)
    | with_reducible refine call_to_q (fun _ (h : cmp_isNaNint x_0 = some _) => cmp_isNaNint_fe h) (fun _ => rfl) (fun r1 => ?_)
    | with_reducible refine call_to (fun _ (h : cmp_isNaNint x_0 = some _) => (by refine FE_cast ?_ (cmp_isNaNint_fe h); simp -implicitDefEqProofs only [go_sem, start, startE, resVs, resV, resC, allV, retK, Nat.reduceBEq, Nat.reduceAdd, Nat.reduceMul, Nat.reduceLeDiff, Nat.reduceEqDiff, Nat.reduceBNe, Nat.ble_eq, UInt8.reduceToNat])) (fun r1 => ?_)
    | with_reducible refine call_to_q (fun _ (h : cmp_isNaNint x_0 = some _) => (by refine FE_cast ?_ (cmp_isNaNint_fe h); simp -implicitDefEqProofs only [go_sem, start, startE, resVs, resV, resC, allV, retK, Nat.reduceBEq, Nat.reduceAdd, Nat.reduceMul, Nat.reduceLeDiff, Nat.reduceEqDiff, Nat.reduceBNe, Nat.ble_eq, UInt8.reduceToNat])) (fun _ => rfl) (fun r1 => ?_)
    | with_reducible refine call_to (fun _ (h : cmp_isNaNint y_1 = some _) => cmp_isNaNint_fe h) (fun r2 => ?_)
    | with_reducible refine call_to_q (fun _ (h : cmp_isNaNint y_1 = some _) => cmp_isNaNint_fe h) (fun _ => rfl) (fun r2 => ?_)
    | with_reducible refine call_to (fun _ (h : cmp_isNaNint y_1 = some _) => (by refine FE_cast ?_ (cmp_isNaNint_fe h); simp -implicitDefEqProofs only [go_sem, start, startE, resVs, resV, resC, allV, retK, Nat.reduceBEq, Nat.reduceAdd, Nat.reduceMul, Nat.reduceLeDiff, Nat.reduceEqDiff, Nat.reduceBNe, Nat.ble_eq, UInt8.reduceToNat])) (fun r2 => ?_)
    | with_reducible refine call_to_q (fun _ (h : cmp_isNaNint y_1 = some _) => (by refine FE_cast ?_ (cmp_isNaNint_fe h); simp -implicitDefEqProofs only [go_sem, start, startE, resVs, resV, resC, allV, retK, Nat.reduceBEq, Nat.reduceAdd, Nat.reduceMul, Nat.reduceLeDiff, Nat.reduceEqDiff, Nat.reduceBNe, Nat.ble_eq, UInt8.reduceToNat])) (fun _ => rfl) (fun r2 => ?_)
    | simp -implicitDefEqProofs only [go_sem, start, startE, resVs, resV, resC, allV, retK, Nat.reduceBEq, Nat.reduceAdd, Nat.reduceMul, Nat.reduceLeDiff, Nat.reduceEqDiff, Nat.reduceBNe, Nat.ble_eq, UInt8.reduceToNat])
theorem cmp_Compareint_fe {x_0 y_1} {s : Store} {r : Int}  (h : cmp_Compareint x_0 y_1 = some r) : FE Go.Proofs.Try.prog 106 [.int .i64 x_0, .int .i64 y_1] s [.int .i64 r] s := cmp_Compareint_fn   ⟨r, h, rfl, rfl⟩
/-- strings.Compare -/
def strings_Compare (a_0 : Str) (b_1 : Str) : Option (Int) :=
  bnd (cmpString a_0 b_1) fun r1 =>
  some r1
def ir_strings_Compare : IC :=
 (.seq (.reg none [i1 4 (.mov false (.c (.int .i64 0)))] [0, 1])
 (.seq (.reg none [mv 5 0,
 mv 6 1,
 i1 7 (.call 125 [(.t 5), (.t 6)]),
 mv 4 7] [4])
 .ret))
def res_strings_Compare : List IRes := [⟨4, true, none⟩]
theorem is_strings_Compare : fnIs Go.Proofs.Try.prog 107 8 res_strings_Compare ir_strings_Compare = true := by kernel_rfl
theorem strings_Compare_fn {a_0 b_1} {s : Store} {Q : List AV → Store → Prop}  : ok (strings_Compare a_0 b_1) (fun r => Q [.int .i64 r] s) → FN Go.Proofs.Try.prog 107 [.str a_0.b, .str b_1.b] s Q := by
  intro h
  refine FN.of (draw_ok mix) is_strings_Compare rfl (Nat.le_of_ble_eq_true rfl) ?_
  revert h
  rw [ir_strings_Compare, res_strings_Compare, strings_Compare]
  repeat' (first
    | with_reducible exact tt_to
    | with_reducible refine and_to ?_ ?_
    | with_reducible refine im_to ?_
    | with_reducible refine call_to (fun _ (h : cmpString a_0 b_1 = some _) => cmpString_fe h) (fun r1 => ?_)
    | with_reducible refine call_to_q (fun _ (h : cmpString a_0 b_1 = some _) => cmpString_fe h) (fun _ => rfl) (fun r1 => ?_)
    | with_reducible refine call_to (fun _ (h : cmpString a_0 b_1 = some _) => (by refine FE_cast ?_ (cmpString_fe h); simp -implicitDefEqProofs only [go_sem, start, startE, resVs, resV, resC, allV, retK, Nat.reduceBEq, Nat.reduceAdd, Nat.reduceMul, Nat.reduceLeDiff, Nat.reduceEqDiff, Nat.reduceBNe, Nat.ble_eq, UInt8.reduceToNat])) (fun r1 => ?_)
    | with_reducible refine call_to_q (fun _ (h : cmpString a_0 b_1 = some _) => (by refine FE_cast ?_ (cmpString_fe h); simp -implicitDefEqProofs only [go_sem, start, startE, resVs, resV, resC, allV, retK, Nat.reduceBEq, Nat.reduceAdd, Nat.reduceMul, Nat.reduceLeDiff, Nat.reduceEqDiff, Nat.reduceBNe, Nat.ble_eq, UInt8.reduceToNat])) (fun _ => rfl) (fun r1 => ?_)
    | simp -implicitDefEqProofs only [go_sem, start, startE, resVs, resV, resC, allV, retK, Nat.reduceBEq, Nat.reduceAdd, Nat.reduceMul, Nat.reduceLeDiff, Nat.reduceEqDiff, Nat.reduceBNe, Nat.ble_eq, UInt8.reduceToNat])
theorem strings_Compare_fe {a_0 b_1} {s : Store} {r : Int}  (h : strings_Compare a_0 b_1 = some r) : FE Go.Proofs.Try.prog 107 [.str a_0.b, .str b_1.b] s [.int .i64 r] s := strings_Compare_fn   ⟨r, h, rfl, rfl⟩
/-- cmp.Or[int] -/
def cmp_Orint (vals_0 : (List Int)) : Option (Int) :=
  jnS (
    bndS (
      iter (fun (t3 : Int) =>
        if decide (t3 < (vals_0.length : Int)) then
          need (0 ≤ t3 ∧ t3 < vals_0.length) <|
          if (ix vals_0 t3) != 0 then
            some (.inr (.inr (ix vals_0 t3)))
          else
            some (.inl (w64 (t3 + 1)))
        else
          some (.inr (.inl ()))) 0) (fun (_ : Unit) =>
      some (.inl ()))
    (fun (t5 : Int) => some (.inr t5))) (fun (_ : Unit) =>
    some 0)
  (fun (t2 : Int) => some t2)
def ir_cmp_Orint : IC :=
 (.seq (.reg none [i1 2 (.mov false (.c (.int .i64 0)))] [0])
 (.seq (.reg none [i1 3 (.mov false (.c (.int .i64 0)))] [0, 3])
 (.join [(3, false)] (.seq (.reg none [mt 6 0,
 i1 7 (.len 0 (.t 6)),
 i1 8 (.mov false (.c (.int .i64 0)))] [3, 6, 7, 8])
 (.block 0 (.loop [(3, false), (6, true), (7, false), (8, false)] (.seq (.reg none [i1 9 (.bin .lss (.t 8) (.t 7))] [3, 6, 7, 8, 9])
 (.seq (.cond (.t 9) .skip
 (.exit 0))
 (.seq (.block 1 (.seq (.reg none [i1 10 (.indexAddr [.int .i64 0] (.t 6) (.t 8)),
 i1 11 (.load 1 false (.t 10)),
 mv 5 11] [3, 5, 6, 7, 8])
 (.seq (.reg none [mv 12 5,
 mv 13 3,
 i1 14 (.bin .neq (.t 12) (.t 13))] [3, 5, 6, 7, 8, 14])
 (.cond (.t 14) (.seq (.reg none [mv 15 5,
 mv 2 15] [2])
 .ret)
 .skip))))
 (.reg none [i1 16 (.bin .add (.t 8) (.c (.int .i64 1))),
 mv 8 16] [3, 6, 7, 8])))))))
 (.seq (.reg none [mv 17 3,
 mv 2 17] [2])
 .ret))))
def res_cmp_Orint : List IRes := [⟨2, true, none⟩]
theorem is_cmp_Orint : fnIs Go.Proofs.Try.prog 105 18 res_cmp_Orint ir_cmp_Orint = true := by kernel_rfl
theorem cmp_Orint_fn {vals_0} {s : Store} {Q : List AV → Store → Prop}  : ok (cmp_Orint vals_0) (fun r => Q [.int .i64 r] s) → FN Go.Proofs.Try.prog 105 [.sl false 1 vals_0.length (flat vals_0)] s Q := by
  intro h
  refine FN.of (draw_ok mix) is_cmp_Orint rfl (Nat.le_of_ble_eq_true rfl) ?_
  revert h
  rw [ir_cmp_Orint, res_cmp_Orint, cmp_Orint]
  repeat' (first
    | with_reducible exact tt_to
    | with_reducible refine and_to ?_ ?_
    | with_reducible refine im_to ?_
    | ((with_reducible refine iter_to (fun (t3 : Int) => ⟨[(3, .int .i64 0), (6, .sl false 1 vals_0.length (flat vals_0)), (7, .int .i64 (vals_0.length : Int)), (8, .int .i64 t3)], [], s⟩) ?_ ?_); (first | exact rfl | simp -implicitDefEqProofs only [go_sem, start, startE, resVs, resV, resC, allV, retK, Nat.reduceBEq, Nat.reduceAdd, Nat.reduceMul, Nat.reduceLeDiff, Nat.reduceEqDiff, Nat.reduceBNe, Nat.ble_eq, UInt8.reduceToNat]); rintro J t3)
    | ((with_reducible refine join_toS (fun (_ : Unit) => ⟨[(3, .int .i64 0)], [], s⟩) (fun J => ?_) ?_); rotate_left; rintro _)
    | simp -implicitDefEqProofs only [go_sem, start, startE, resVs, resV, resC, allV, retK, Nat.reduceBEq, Nat.reduceAdd, Nat.reduceMul, Nat.reduceLeDiff, Nat.reduceEqDiff, Nat.reduceBNe, Nat.ble_eq, UInt8.reduceToNat])
theorem cmp_Orint_fe {vals_0} {s : Store} {r : Int}  (h : cmp_Orint vals_0 = some r) : FE Go.Proofs.Try.prog 105 [.sl false 1 vals_0.length (flat vals_0)] s [.int .i64 r] s := cmp_Orint_fn   ⟨r, h, rfl, rfl⟩
mutual
def value_Compare : Nat → api_Value → api_Value → Option (Int)
  | 0, _, _ => none
  | fuel + 1, a_0, b_1 =>
    bnd (cmp_Compareint a_0.Kind b_1.Kind) fun r1 =>
    bnd (cmp_Compareint a_0.N b_1.N) fun r2 =>
    bnd (strings_Compare a_0.S b_1.S) fun r3 =>
    bnd (cmp_Orint [r1, r2, r3]) fun r4 =>
    if r4 != 0 then
      some r4
    else
      bnd (slices_CompareFuncapi_Value_api_Value_api_Value_api_Value fuel a_0.L b_1.L) fun r5 =>
      some r5
def slices_CompareFuncapi_Value_api_Value_api_Value_api_Value : Nat → (List api_Value) → (List api_Value) → Option (Int)
  | 0, _, _ => none
  | fuel + 1, s1_0, s2_1 =>
    jnS (
      bndS (
        iter (fun (t4 : Int) =>
          if decide (t4 < (s1_0.length : Int)) then
            need (0 ≤ t4 ∧ t4 < s1_0.length) <|
            if decide (t4 ≥ (s2_1.length : Int)) then
              some (.inr (.inr (1 : Int)))
            else
              need (0 ≤ t4 ∧ t4 < s2_1.length) <|
              bnd (value_Compare fuel (ix s1_0 t4) (ix s2_1 t4)) fun r8 =>
              if r8 != 0 then
                some (.inr (.inr r8))
              else
                some (.inl (w64 (t4 + 1)))
          else
            some (.inr (.inl ()))) 0) (fun (_ : Unit) =>
        some (.inl ()))
      (fun (t7 : Int) => some (.inr t7))) (fun (_ : Unit) =>
      if decide ((s1_0.length : Int) < (s2_1.length : Int)) then
        some (-1)
      else
        some 0)
    (fun (t3 : Int) => some t3)
end
def ir_value_Compare : IC :=
 (.seq (.reg none [i1 2 (.boxL 4 (.t 0)),
 i1 3 (.boxL 4 (.t 1)),
 i1 4 (.mov false (.c (.int .i64 0)))] [2, 3])
 (.seq (.seq (.reg (some 18) [i1 6 (.fieldAddr 0 (.t 2)),
 i1 7 (.load 1 false (.t 6)),
 i1 8 (.fieldAddr 0 (.t 3)),
 i1 9 (.load 1 false (.t 8)),
 i1 10 (.call 106 [(.t 7), (.t 9)]),
 i1 11 (.fieldAddr 1 (.t 2)),
 i1 12 (.load 1 false (.t 11)),
 i1 13 (.fieldAddr 1 (.t 3)),
 i1 14 (.load 1 false (.t 13)),
 i1 15 (.call 106 [(.t 12), (.t 14)]),
 i1 16 (.fieldAddr 2 (.t 2)),
 i1 17 (.load 1 false (.t 16)),
 i1 18 (.fieldAddr 2 (.t 3)),
 i1 19 (.load 1 false (.t 18)),
 i1 20 (.call 107 [(.t 17), (.t 19)]),
 i1 21 (.buildSl 1 3 [.int .i64 0, .int .i64 0, .int .i64 0] [(0, 1, (.t 10)), (1, 1, (.t 15)), (2, 1, (.t 20))]),
 i1 22 (.call 105 [(.t 21)]),
 mv 5 22] [2, 3, 5])
 (.seq (.reg none [mv 23 5,
 i1 24 (.bin .neq (.t 23) (.c (.int .i64 0)))] [2, 3, 5, 24])
 (.cond (.t 24) (.seq (.reg none [mv 25 5,
 mv 4 25] [4])
 .ret)
 .skip)))
 (.seq (.reg none [i1 26 (.fieldAddr 3 (.t 2)),
 i1 27 (.load 1 false (.t 26)),
 i1 28 (.fieldAddr 3 (.t 3)),
 i1 29 (.load 1 false (.t 28)),
 i1 30 (.call 108 [(.t 27), (.t 29), (.c (.fn 78 [] []))]),
 mv 4 30] [4])
 .ret)))
def res_value_Compare : List IRes := [⟨4, true, none⟩]
theorem is_value_Compare : fnIs Go.Proofs.Try.prog 78 31 res_value_Compare ir_value_Compare = true := by kernel_rfl
theorem fnok_78 : (fnOK Go.Proofs.Try.prog 78 = true) = True := eq_true (by kernel_rfl)
def ir_slices_CompareFuncapi_Value_api_Value_api_Value_api_Value : IC :=
 (.seq (.reg none [i1 6 (.mov false (.c (.int .i64 0)))] [0, 1, 2])
 (.join [(0, true), (1, true)] (.seq (.reg none [mv 11 0,
 i1 12 (.len 0 (.t 11)),
 i1 13 (.mov false (.c (.int .i64 0)))] [0, 1, 2, 11, 12, 13])
 (.block 0 (.loop [(0, true), (1, true), (2, false), (11, true), (12, false), (13, false)] (.seq (.reg none [i1 14 (.bin .lss (.t 13) (.t 12))] [0, 1, 2, 11, 12, 13, 14])
 (.seq (.cond (.t 14) .skip
 (.exit 0))
 (.seq (.block 1 (.seq (.reg none [mv 15 13,
 i1 16 (.indexAddr [.int .i64 0, .int .i64 0, .str [], .sl false 4 0 []] (.t 11) (.t 13)),
 i1 17 (.load 4 true (.t 16)),
 i1 8 (.allocL [.int .i64 0, .int .i64 0, .str [], .sl true 4 0 []]),
 mv 7 15,
 i0 (.store 4 (.t 8) (.t 17))] [0, 1, 2, 7, 8, 11, 12, 13])
 (.seq (.seq (.reg none [mv 18 7,
 mv 19 1,
 i1 20 (.len 0 (.t 19)),
 i1 21 (.bin .geq (.t 18) (.t 20))] [0, 1, 2, 7, 8, 11, 12, 13, 21])
 (.cond (.t 21) (.seq (.reg none [i1 6 (.mov false (.c (.int .i64 1)))] [6])
 .ret)
 .skip))
 (.seq (.reg none [mv 22 1,
 mv 23 7,
 i1 24 (.indexAddr [.int .i64 0, .int .i64 0, .str [], .sl false 4 0 []] (.t 22) (.t 23)),
 i1 25 (.load 4 true (.t 24)),
 i1 9 (.allocL [.int .i64 0, .int .i64 0, .str [], .sl true 4 0 []]),
 i0 (.store 4 (.t 9) (.t 25))] [0, 1, 2, 8, 9, 11, 12, 13])
 (.seq (.reg none [mv 26 2,
 i1 27 (.load 4 true (.t 8)),
 i1 28 (.load 4 true (.t 9)),
 i1 29 (.callv (.t 26) [(.t 27), (.t 28)]),
 mv 10 29] [0, 1, 2, 10, 11, 12, 13])
 (.seq (.reg none [mv 30 10,
 i1 31 (.bin .neq (.t 30) (.c (.int .i64 0)))] [0, 1, 2, 10, 11, 12, 13, 31])
 (.cond (.t 31) (.seq (.reg none [mv 32 10,
 mv 6 32] [6])
 .ret)
 .skip)))))))
 (.reg none [i1 33 (.bin .add (.t 13) (.c (.int .i64 1))),
 mv 13 33] [0, 1, 2, 11, 12, 13])))))))
 (.seq (.seq (.reg none [mt 34 0,
 i1 35 (.len 0 (.t 34)),
 mt 36 1,
 i1 37 (.len 0 (.t 36)),
 i1 38 (.bin .lss (.t 35) (.t 37))] [38])
 (.cond (.t 38) (.seq (.reg none [i1 6 (.mov false (.c (.int .i64 (-1))))] [6])
 .ret)
 .skip))
 (.seq (.reg none [i1 6 (.mov false (.c (.int .i64 0)))] [6])
 .ret))))
def res_slices_CompareFuncapi_Value_api_Value_api_Value_api_Value : List IRes := [⟨6, true, none⟩]
theorem is_slices_CompareFuncapi_Value_api_Value_api_Value_api_Value : fnIs Go.Proofs.Try.prog 108 39 res_slices_CompareFuncapi_Value_api_Value_api_Value_api_Value ir_slices_CompareFuncapi_Value_api_Value_api_Value_api_Value = true := by kernel_rfl
theorem value_Compare_scc {fuel : Nat} : (∀ {a_0 : api_Value} {b_1 : api_Value} {s : Store} {Q : List AV → Store → Prop}, ok (value_Compare fuel a_0 b_1) (fun r => Q [.int .i64 r] s) → FN Go.Proofs.Try.prog 78 [.agg [.int .i64 a_0.Kind, .int .i64 a_0.N, .str a_0.S.b, .sl false 4 a_0.L.length (flat a_0.L)], .agg [.int .i64 b_1.Kind, .int .i64 b_1.N, .str b_1.S.b, .sl false 4 b_1.L.length (flat b_1.L)]] s Q)
  ∧ (∀ {s1_0 : (List api_Value)} {s2_1 : (List api_Value)} {s : Store} {Q : List AV → Store → Prop}, ok (slices_CompareFuncapi_Value_api_Value_api_Value_api_Value fuel s1_0 s2_1) (fun r => Q [.int .i64 r] s) → FN Go.Proofs.Try.prog 108 [.sl false 4 s1_0.length (flat s1_0), .sl false 4 s2_1.length (flat s2_1), .fn 78 [] []] s Q) := by
  induction fuel with
  | zero => exact ⟨by (intros; rename_i h; rw [value_Compare] at h; exact absurd h (by rw [ok_none]; exact fun h => h)), by (intros; rename_i h; rw [slices_CompareFuncapi_Value_api_Value_api_Value_api_Value] at h; exact absurd h (by rw [ok_none]; exact fun h => h))⟩
  | succ fuel ih =>
  have ihfe_78 : ∀ {a_0 : api_Value} {b_1 : api_Value} {s : Store} {r : Int}, value_Compare fuel a_0 b_1 = some r → FE Go.Proofs.Try.prog 78 [.agg [.int .i64 a_0.Kind, .int .i64 a_0.N, .str a_0.S.b, .sl false 4 a_0.L.length (flat a_0.L)], .agg [.int .i64 b_1.Kind, .int .i64 b_1.N, .str b_1.S.b, .sl false 4 b_1.L.length (flat b_1.L)]] s [.int .i64 r] s := fun h => ih.1 ⟨_, h, rfl, rfl⟩
  have ihfe_108 : ∀ {s1_0 : (List api_Value)} {s2_1 : (List api_Value)} {s : Store} {r : Int}, slices_CompareFuncapi_Value_api_Value_api_Value_api_Value fuel s1_0 s2_1 = some r → FE Go.Proofs.Try.prog 108 [.sl false 4 s1_0.length (flat s1_0), .sl false 4 s2_1.length (flat s2_1), .fn 78 [] []] s [.int .i64 r] s := fun h => ih.2 ⟨_, h, rfl, rfl⟩
  refine ⟨?_, ?_⟩
  · intro a_0 b_1 s Q h
    refine FN.of (draw_ok mix) is_value_Compare rfl (Nat.le_of_ble_eq_true rfl) ?_
    revert h
    rw [ir_value_Compare, res_value_Compare, value_Compare]
    repeat' (first
      | with_reducible exact tt_to
      | with_reducible refine and_to ?_ ?_
      | with_reducible refine im_to ?_
      | with_reducible refine call_to (fun _ (h : cmp_Compareint a_0.Kind b_1.Kind = some _) => cmp_Compareint_fe h) (fun r1 => ?_)
      | with_reducible refine call_to_q (fun _ (h : cmp_Compareint a_0.Kind b_1.Kind = some _) => cmp_Compareint_fe h) (fun _ => rfl) (fun r1 => ?_)
      | with_reducible refine call_to (fun _ (h : cmp_Compareint a_0.Kind b_1.Kind = some _) => (by refine FE_cast ?_ (cmp_Compareint_fe h); simp -implicitDefEqProofs only [go_sem, start, startE, resVs, resV, resC, allV, retK, Nat.reduceBEq, Nat.reduceAdd, Nat.reduceMul, Nat.reduceLeDiff, Nat.reduceEqDiff, Nat.reduceBNe, Nat.ble_eq, UInt8.reduceToNat])) (fun r1 => ?_)
      | with_reducible refine call_to_q (fun _ (h : cmp_Compareint a_0.Kind b_1.Kind = some _) => (by refine FE_cast ?_ (cmp_Compareint_fe h); simp -implicitDefEqProofs only [go_sem, start, startE, resVs, resV, resC, allV, retK, Nat.reduceBEq, Nat.reduceAdd, Nat.reduceMul, Nat.reduceLeDiff, Nat.reduceEqDiff, Nat.reduceBNe, Nat.ble_eq, UInt8.reduceToNat])) (fun _ => rfl) (fun r1 => ?_)
      | with_reducible refine call_to (fun _ (h : cmp_Compareint a_0.N b_1.N = some _) => cmp_Compareint_fe h) (fun r2 => ?_)
      | with_reducible refine call_to_q (fun _ (h : cmp_Compareint a_0.N b_1.N = some _) => cmp_Compareint_fe h) (fun _ => rfl) (fun r2 => ?_)
      | with_reducible refine call_to (fun _ (h : cmp_Compareint a_0.N b_1.N = some _) => (by refine FE_cast ?_ (cmp_Compareint_fe h); simp -implicitDefEqProofs only [go_sem, start, startE, resVs, resV, resC, allV, retK, Nat.reduceBEq, Nat.reduceAdd, Nat.reduceMul, Nat.reduceLeDiff, Nat.reduceEqDiff, Nat.reduceBNe, Nat.ble_eq, UInt8.reduceToNat])) (fun r2 => ?_)
      | with_reducible refine call_to_q (fun _ (h : cmp_Compareint a_0.N b_1.N = some _) => (by refine FE_cast ?_ (cmp_Compareint_fe h); simp -implicitDefEqProofs only [go_sem, start, startE, resVs, resV, resC, allV, retK, Nat.reduceBEq, Nat.reduceAdd, Nat.reduceMul, Nat.reduceLeDiff, Nat.reduceEqDiff, Nat.reduceBNe, Nat.ble_eq, UInt8.reduceToNat])) (fun _ => rfl) (fun r2 => ?_)
      | with_reducible refine call_to (fun _ (h : strings_Compare a_0.S b_1.S = some _) => strings_Compare_fe h) (fun r3 => ?_)
      | with_reducible refine call_to_q (fun _ (h : strings_Compare a_0.S b_1.S = some _) => strings_Compare_fe h) (fun _ => rfl) (fun r3 => ?_)
      | with_reducible refine call_to (fun _ (h : strings_Compare a_0.S b_1.S = some _) => (by refine FE_cast ?_ (strings_Compare_fe h); simp -implicitDefEqProofs only [go_sem, start, startE, resVs, resV, resC, allV, retK, Nat.reduceBEq, Nat.reduceAdd, Nat.reduceMul, Nat.reduceLeDiff, Nat.reduceEqDiff, Nat.reduceBNe, Nat.ble_eq, UInt8.reduceToNat])) (fun r3 => ?_)
      | with_reducible refine call_to_q (fun _ (h : strings_Compare a_0.S b_1.S = some _) => (by refine FE_cast ?_ (strings_Compare_fe h); simp -implicitDefEqProofs only [go_sem, start, startE, resVs, resV, resC, allV, retK, Nat.reduceBEq, Nat.reduceAdd, Nat.reduceMul, Nat.reduceLeDiff, Nat.reduceEqDiff, Nat.reduceBNe, Nat.ble_eq, UInt8.reduceToNat])) (fun _ => rfl) (fun r3 => ?_)
      | with_reducible refine call_to (fun _ (h : cmp_Orint [r1, r2, r3] = some _) => cmp_Orint_fe h) (fun r4 => ?_)
      | with_reducible refine call_to_q (fun _ (h : cmp_Orint [r1, r2, r3] = some _) => cmp_Orint_fe h) (fun _ => rfl) (fun r4 => ?_)
      | with_reducible refine call_to (fun _ (h : cmp_Orint [r1, r2, r3] = some _) => (by refine FE_cast ?_ (cmp_Orint_fe h); simp -implicitDefEqProofs only [go_sem, start, startE, resVs, resV, resC, allV, retK, Nat.reduceBEq, Nat.reduceAdd, Nat.reduceMul, Nat.reduceLeDiff, Nat.reduceEqDiff, Nat.reduceBNe, Nat.ble_eq, UInt8.reduceToNat])) (fun r4 => ?_)
      | with_reducible refine call_to_q (fun _ (h : cmp_Orint [r1, r2, r3] = some _) => (by refine FE_cast ?_ (cmp_Orint_fe h); simp -implicitDefEqProofs only [go_sem, start, startE, resVs, resV, resC, allV, retK, Nat.reduceBEq, Nat.reduceAdd, Nat.reduceMul, Nat.reduceLeDiff, Nat.reduceEqDiff, Nat.reduceBNe, Nat.ble_eq, UInt8.reduceToNat])) (fun _ => rfl) (fun r4 => ?_)
      | with_reducible refine call_to (fun _ (h : slices_CompareFuncapi_Value_api_Value_api_Value_api_Value fuel a_0.L b_1.L = some _) => ihfe_108 h) (fun r5 => ?_)
      | with_reducible refine call_to_q (fun _ (h : slices_CompareFuncapi_Value_api_Value_api_Value_api_Value fuel a_0.L b_1.L = some _) => ihfe_108 h) (fun _ => rfl) (fun r5 => ?_)
      | with_reducible refine call_to (fun _ (h : slices_CompareFuncapi_Value_api_Value_api_Value_api_Value fuel a_0.L b_1.L = some _) => (by have hx := ihfe_108 (s := s) h; simp -implicitDefEqProofs only [go_sem, start, startE, resVs, resV, resC, allV, retK, Nat.reduceBEq, Nat.reduceAdd, Nat.reduceMul, Nat.reduceLeDiff, Nat.reduceEqDiff, Nat.reduceBNe, Nat.ble_eq, UInt8.reduceToNat] at hx; exact hx)) (fun r5 => ?_)
      | simp -implicitDefEqProofs only [go_sem, start, startE, resVs, resV, resC, allV, retK, Nat.reduceBEq, Nat.reduceAdd, Nat.reduceMul, Nat.reduceLeDiff, Nat.reduceEqDiff, Nat.reduceBNe, Nat.ble_eq, UInt8.reduceToNat])
  · intro s1_0 s2_1 s Q h
    refine FN.of (draw_ok mix) is_slices_CompareFuncapi_Value_api_Value_api_Value_api_Value rfl (Nat.le_of_ble_eq_true rfl) ?_
    revert h
    rw [ir_slices_CompareFuncapi_Value_api_Value_api_Value_api_Value, res_slices_CompareFuncapi_Value_api_Value_api_Value_api_Value, slices_CompareFuncapi_Value_api_Value_api_Value_api_Value]
    repeat' (first
      | with_reducible exact tt_to
      | with_reducible refine and_to ?_ ?_
      | with_reducible refine im_to ?_
      | with_reducible refine call_to (fun _ (h : value_Compare fuel (ix s1_0 t4) (ix s2_1 t4) = some _) => ihfe_78 h) (fun r8 => ?_)
      | with_reducible refine call_to_q (fun _ (h : value_Compare fuel (ix s1_0 t4) (ix s2_1 t4) = some _) => ihfe_78 h) (fun _ => rfl) (fun r8 => ?_)
      | with_reducible refine call_to (fun _ (h : value_Compare fuel (ix s1_0 t4) (ix s2_1 t4) = some _) => (by have hx := ihfe_78 (s := s) h; simp -implicitDefEqProofs only [go_sem, start, startE, resVs, resV, resC, allV, retK, Nat.reduceBEq, Nat.reduceAdd, Nat.reduceMul, Nat.reduceLeDiff, Nat.reduceEqDiff, Nat.reduceBNe, Nat.ble_eq, UInt8.reduceToNat, fnok_78] at hx; exact hx)) (fun r8 => ?_)
      | ((with_reducible refine iter_to (fun (t4 : Int) => ⟨[(0, .sl false 4 s1_0.length (flat s1_0)), (1, .sl false 4 s2_1.length (flat s2_1)), (2, .fn 78 [] []), (11, .sl false 4 s1_0.length (flat s1_0)), (12, .int .i64 (s1_0.length : Int)), (13, .int .i64 t4)], [], s⟩) ?_ ?_); (first | exact rfl | simp -implicitDefEqProofs only [go_sem, start, startE, resVs, resV, resC, allV, retK, Nat.reduceBEq, Nat.reduceAdd, Nat.reduceMul, Nat.reduceLeDiff, Nat.reduceEqDiff, Nat.reduceBNe, Nat.ble_eq, UInt8.reduceToNat, fnok_78]); rintro J t4)
      | ((with_reducible refine join_toS (fun (_ : Unit) => ⟨[(0, .sl false 4 s1_0.length (flat s1_0)), (1, .sl false 4 s2_1.length (flat s2_1))], [], s⟩) (fun J => ?_) ?_); rotate_left; rintro _)
      | simp -implicitDefEqProofs only [go_sem, start, startE, resVs, resV, resC, allV, retK, Nat.reduceBEq, Nat.reduceAdd, Nat.reduceMul, Nat.reduceLeDiff, Nat.reduceEqDiff, Nat.reduceBNe, Nat.ble_eq, UInt8.reduceToNat, fnok_78])
theorem value_Compare_fn {fuel : Nat} : ∀ {a_0 : api_Value} {b_1 : api_Value} {s : Store} {Q : List AV → Store → Prop}, ok (value_Compare fuel a_0 b_1) (fun r => Q [.int .i64 r] s) → FN Go.Proofs.Try.prog 78 [.agg [.int .i64 a_0.Kind, .int .i64 a_0.N, .str a_0.S.b, .sl false 4 a_0.L.length (flat a_0.L)], .agg [.int .i64 b_1.Kind, .int .i64 b_1.N, .str b_1.S.b, .sl false 4 b_1.L.length (flat b_1.L)]] s Q := value_Compare_scc.1
theorem value_Compare_fe {fuel : Nat} {a_0 b_1} {s : Store} {r : Int} (h : value_Compare fuel a_0 b_1 = some r) : FE Go.Proofs.Try.prog 78 [.agg [.int .i64 a_0.Kind, .int .i64 a_0.N, .str a_0.S.b, .sl false 4 a_0.L.length (flat a_0.L)], .agg [.int .i64 b_1.Kind, .int .i64 b_1.N, .str b_1.S.b, .sl false 4 b_1.L.length (flat b_1.L)]] s [.int .i64 r] s := value_Compare_fn ⟨r, h, rfl, rfl⟩
theorem slices_CompareFuncapi_Value_api_Value_api_Value_api_Value_fn {fuel : Nat} : ∀ {s1_0 : (List api_Value)} {s2_1 : (List api_Value)} {s : Store} {Q : List AV → Store → Prop}, ok (slices_CompareFuncapi_Value_api_Value_api_Value_api_Value fuel s1_0 s2_1) (fun r => Q [.int .i64 r] s) → FN Go.Proofs.Try.prog 108 [.sl false 4 s1_0.length (flat s1_0), .sl false 4 s2_1.length (flat s2_1), .fn 78 [] []] s Q := value_Compare_scc.2
theorem slices_CompareFuncapi_Value_api_Value_api_Value_api_Value_fe {fuel : Nat} {s1_0 s2_1} {s : Store} {r : Int} (h : slices_CompareFuncapi_Value_api_Value_api_Value_api_Value fuel s1_0 s2_1 = some r) : FE Go.Proofs.Try.prog 108 [.sl false 4 s1_0.length (flat s1_0), .sl false 4 s2_1.length (flat s2_1), .fn 78 [] []] s [.int .i64 r] s := slices_CompareFuncapi_Value_api_Value_api_Value_api_Value_fn ⟨r, h, rfl, rfl⟩
/-- catchword/value.Same -/
def value_Same (a_0 : api_Value) (b_1 : api_Value) : Option (Bool) :=
  bnd (value_Compare bigN a_0 b_1) fun r1 =>
  some (r1 == 0)
def ir_value_Same : IC :=
 (.seq (.reg none [i1 2 (.boxL 4 (.t 0)),
 i1 3 (.boxL 4 (.t 1)),
 i1 4 (.mov false (.c (.bool false)))] [2, 3])
 (.seq (.reg none [i1 5 (.load 4 true (.t 2)),
 i1 6 (.load 4 true (.t 3)),
 i1 7 (.call 78 [(.t 5), (.t 6)]),
 i1 8 (.bin .eql (.t 7) (.c (.int .i64 0))),
 mv 4 8] [4])
 .ret))
def res_value_Same : List IRes := [⟨4, true, none⟩]
theorem is_value_Same : fnIs Go.Proofs.Try.prog 35 9 res_value_Same ir_value_Same = true := by kernel_rfl
theorem value_Same_fn {a_0 b_1} {s : Store} {Q : List AV → Store → Prop}  : ok (value_Same a_0 b_1) (fun r => Q [.bool r] s) → FN Go.Proofs.Try.prog 35 [.agg [.int .i64 a_0.Kind, .int .i64 a_0.N, .str a_0.S.b, .sl false 4 a_0.L.length (flat a_0.L)], .agg [.int .i64 b_1.Kind, .int .i64 b_1.N, .str b_1.S.b, .sl false 4 b_1.L.length (flat b_1.L)]] s Q := by
  intro h
  refine FN.of (draw_ok mix) is_value_Same rfl (Nat.le_of_ble_eq_true rfl) ?_
  revert h
  rw [ir_value_Same, res_value_Same, value_Same]
  repeat' (first
    | with_reducible exact tt_to
    | with_reducible refine and_to ?_ ?_
    | with_reducible refine im_to ?_
    | with_reducible refine call_to (fun _ (h : value_Compare bigN a_0 b_1 = some _) => value_Compare_fe h) (fun r1 => ?_)
    | with_reducible refine call_to_q (fun _ (h : value_Compare bigN a_0 b_1 = some _) => value_Compare_fe h) (fun _ => rfl) (fun r1 => ?_)
    | with_reducible refine call_to (fun _ (h : value_Compare bigN a_0 b_1 = some _) => (by refine FE_cast ?_ (value_Compare_fe h); simp -implicitDefEqProofs only [go_sem, start, startE, resVs, resV, resC, allV, retK, Nat.reduceBEq, Nat.reduceAdd, Nat.reduceMul, Nat.reduceLeDiff, Nat.reduceEqDiff, Nat.reduceBNe, Nat.ble_eq, UInt8.reduceToNat])) (fun r1 => ?_)
    | with_reducible refine call_to_q (fun _ (h : value_Compare bigN a_0 b_1 = some _) => (by refine FE_cast ?_ (value_Compare_fe h); simp -implicitDefEqProofs only [go_sem, start, startE, resVs, resV, resC, allV, retK, Nat.reduceBEq, Nat.reduceAdd, Nat.reduceMul, Nat.reduceLeDiff, Nat.reduceEqDiff, Nat.reduceBNe, Nat.ble_eq, UInt8.reduceToNat])) (fun _ => rfl) (fun r1 => ?_)
    | simp -implicitDefEqProofs only [go_sem, start, startE, resVs, resV, resC, allV, retK, Nat.reduceBEq, Nat.reduceAdd, Nat.reduceMul, Nat.reduceLeDiff, Nat.reduceEqDiff, Nat.reduceBNe, Nat.ble_eq, UInt8.reduceToNat])
theorem value_Same_fe {a_0 b_1} {s : Store} {r : Bool}  (h : value_Same a_0 b_1 = some r) : FE Go.Proofs.Try.prog 35 [.agg [.int .i64 a_0.Kind, .int .i64 a_0.N, .str a_0.S.b, .sl false 4 a_0.L.length (flat a_0.L)], .agg [.int .i64 b_1.Kind, .int .i64 b_1.N, .str b_1.S.b, .sl false 4 b_1.L.length (flat b_1.L)]] s [.bool r] s := value_Same_fn   ⟨r, h, rfl, rfl⟩
end Go.AB
end

section
set_option maxRecDepth 4000
namespace Go.AB
open Go
/-- catchword/catchwordlaw20.leads -/
def law20_leads (f_0 : file_File) (l_1 : tree_Leaf) : Option (Bool) :=
  bnd (file_File_Root f_0) fun r1 =>
  bnd (file_File_Get f_0 r1) fun r2 =>
  bnd (value_Get r2.1.V (Str.mk [80, 97, 103, 101, 115])) fun r3 =>
  need (0 ≤ (0 : Int) ∧ (0 : Int) < l_1.Path.length) <|
  if r3.1.N != (ix l_1.Path 0) then
    some false
  else
    jnS (
      bndS (
        iter (fun (k7 : Int) =>
          if decide (k7 < (l_1.Path.length : Int)) then
            jnS (
              jn (
                if decide (w64 (k7 + 1) < (l_1.Path.length : Int)) then
                  need (0 ≤ w64 (k7 + 1) ∧ w64 (k7 + 1) < l_1.Path.length) <|
                  some (ix l_1.Path (w64 (k7 + 1)))
                else
                  some l_1.Page) fun (next18 : Int) =>
              need (0 ≤ k7 ∧ k7 < l_1.Path.length) <|
              bnd (file_File_Get f_0 (ix l_1.Path k7)) fun r20 =>
              bnd (value_Get r20.1.V (Str.mk [75, 105, 100, 115])) fun r21 =>
              jn (
                iter (fun ((is26, j27) : Bool × Int) =>
                  if decide (j27 < (r21.1.L.length : Int)) then
                    need ((!is26) = true → 0 ≤ j27 ∧ j27 < r21.1.L.length) <|
                    some (.inl (is26 || (((ix r21.1.L j27).N) == next18), w64 (j27 + 1)))
                  else
                    some (.inr is26)) (false, 0)) fun (is24 : Bool) =>
              if !is24 then
                some (.inr false)
              else
                some (.inl ())) (fun (_ : Unit) =>
              some (.inl (w64 (k7 + 1))))
            (fun (t14 : Bool) => some (.inr (.inr t14)))
          else
            some (.inr (.inl ()))) 0) (fun (_ : Unit) =>
        some (.inl ()))
      (fun (t9 : Bool) => some (.inr t9))) (fun (_ : Unit) =>
      some true)
    (fun (t5 : Bool) => some t5)
def ir_law20_leads : IC :=
 (.seq (.reg none [i1 3 (.boxL 6 (.t 1)),
 i1 4 (.mov false (.c (.bool false)))] [0, 3])
 (.seq (.reg none [mv 20 0,
 mv 21 0,
 i1 22 (.call 79 [(.t 21)]),
 i1 23 (.call 34 [(.t 20), (.t 22)]),
 i1 19 (.movT (.t 23)),
 i1 24 (.extract (.t 19) 0),
 i1 25 (.extract (.t 19) 1),
 i1 26 (.extract (.t 19) 2),
 i1 5 (.allocL [.int .i64 0, .int .i64 0, .str [], .sl true 4 0 [], .bool false, .str []]),
 i0 (.store 6 (.t 5) (.t 24)),
 mv 6 25,
 mv 7 26] [0, 3, 5])
 (.seq (.reg none [i1 28 (.fieldAddr 0 (.t 5)),
 i1 29 (.load 4 true (.t 28)),
 i1 30 (.call 30 [(.t 29), (.c (.str [80, 97, 103, 101, 115]))]),
 i1 27 (.movT (.t 30)),
 i1 31 (.extract (.t 27) 0),
 i1 32 (.extract (.t 27) 1),
 i1 8 (.allocL [.int .i64 0, .int .i64 0, .str [], .sl true 4 0 []]),
 i0 (.store 4 (.t 8) (.t 31)),
 mv 9 32] [0, 3, 8])
 (.seq (.seq (.reg (some 7) [i1 33 (.fieldAddr 1 (.t 8)),
 i1 34 (.load 1 false (.t 33)),
 i1 35 (.fieldAddr 1 (.t 3)),
 i1 36 (.load 1 false (.t 35)),
 i1 37 (.indexAddr [.int .i64 0] (.t 36) (.c (.int .i64 0))),
 i1 38 (.load 1 false (.t 37)),
 i1 39 (.bin .neq (.t 34) (.t 38))] [0, 3, 39])
 (.cond (.t 39) (.seq (.reg none [i1 4 (.mov false (.c (.bool false)))] [4])
 .ret)
 .skip))
 (.join [] (.seq (.reg none [i1 10 (.mov false (.c (.int .i64 0)))] [0, 3, 10])
 (.block 0 (.loop [(0, false), (3, false), (10, false)] (.seq (.seq (.reg none [mv 40 10,
 i1 41 (.fieldAddr 1 (.t 3)),
 i1 42 (.load 1 false (.t 41)),
 i1 43 (.len 0 (.t 42)),
 i1 44 (.bin .lss (.t 40) (.t 43))] [0, 3, 10, 44])
 (.cond (.t 44) .skip
 (.exit 0)))
 (.join [(0, false), (3, false), (10, false)] (.block 1 (.seq (.reg none [i1 47 (.fieldAddr 0 (.t 3)),
 i1 48 (.load 1 false (.t 47)),
 mv 11 48] [0, 3, 10, 11])
 (.join [(0, false), (3, false), (10, false), (11, false)] (.seq (.reg none [mv 49 10,
 i1 50 (.bin .add (.t 49) (.c (.int .i64 1))),
 i1 51 (.fieldAddr 1 (.t 3)),
 i1 52 (.load 1 false (.t 51)),
 i1 53 (.len 0 (.t 52)),
 i1 54 (.bin .lss (.t 50) (.t 53))] [0, 3, 10, 11, 54])
 (.cond (.t 54) (.reg none [i1 55 (.fieldAddr 1 (.t 3)),
 i1 56 (.load 1 false (.t 55)),
 mv 57 10,
 i1 58 (.bin .add (.t 57) (.c (.int .i64 1))),
 i1 59 (.indexAddr [.int .i64 0] (.t 56) (.t 58)),
 i1 60 (.load 1 false (.t 59)),
 mv 11 60] [0, 3, 10, 11])
 .skip))
 (.seq (.reg none [mv 62 0,
 i1 63 (.fieldAddr 1 (.t 3)),
 i1 64 (.load 1 false (.t 63)),
 mv 65 10,
 i1 66 (.indexAddr [.int .i64 0] (.t 64) (.t 65)),
 i1 67 (.load 1 false (.t 66)),
 i1 68 (.call 34 [(.t 62), (.t 67)]),
 i1 61 (.movT (.t 68)),
 i1 69 (.extract (.t 61) 0),
 i1 70 (.extract (.t 61) 1),
 i1 71 (.extract (.t 61) 2),
 i1 12 (.allocL [.int .i64 0, .int .i64 0, .str [], .sl true 4 0 [], .bool false, .str []]),
 i0 (.store 6 (.t 12) (.t 69)),
 mv 13 70,
 mv 14 71] [0, 3, 10, 11, 12])
 (.seq (.reg none [i1 73 (.fieldAddr 0 (.t 12)),
 i1 74 (.load 4 true (.t 73)),
 i1 75 (.call 30 [(.t 74), (.c (.str [75, 105, 100, 115]))]),
 i1 72 (.movT (.t 75)),
 i1 76 (.extract (.t 72) 0),
 i1 77 (.extract (.t 72) 1),
 i1 15 (.allocL [.int .i64 0, .int .i64 0, .str [], .sl true 4 0 []]),
 i0 (.store 4 (.t 15) (.t 76)),
 mv 16 77] [0, 3, 10, 11, 15])
 (.seq (.reg none [i1 17 (.mov false (.c (.bool false)))] [0, 3, 10, 11, 15, 17])
 (.join [(0, false), (3, false), (10, false), (17, false)] (.seq (.reg none [i1 18 (.mov false (.c (.int .i64 0)))] [0, 3, 10, 11, 15, 17, 18])
 (.block 2 (.loop [(0, false), (3, false), (10, false), (11, false), (15, false), (17, false), (18, false)] (.seq (.seq (.reg none [mv 78 18,
 i1 79 (.fieldAddr 3 (.t 15)),
 i1 80 (.load 1 false (.t 79)),
 i1 81 (.len 0 (.t 80)),
 i1 82 (.bin .lss (.t 78) (.t 81))] [0, 3, 10, 11, 15, 17, 18, 82])
 (.cond (.t 82) .skip
 (.exit 2)))
 (.seq (.block 3 (.reg none [mv 85 17,
 mv 86 85,
 i1g 87 86 false (.fieldAddr 3 (.t 15)),
 i1g 88 86 false (.load 1 false (.t 87)),
 mvg 89 18 86 false,
 i1g 90 86 false (.indexAddr [.int .i64 0, .int .i64 0, .str [], .sl false 4 0 []] (.t 88) (.t 89)),
 i1g 91 86 false (.fieldAddr 1 (.t 90)),
 i1g 92 86 false (.load 1 false (.t 91)),
 mvg 93 11 86 false,
 i1g 94 86 false (.bin .eql (.t 92) (.t 93)),
 i1 95 (.pick (.t 86) (.c (.bool true)) (.t 94)),
 mv 17 95] [0, 3, 10, 11, 15, 17, 18]))
 (.reg none [mv 83 18,
 i1 84 (.bin .add (.t 83) (.c (.int .i64 1))),
 mv 18 84] [0, 3, 10, 11, 15, 17, 18]))))))
 (.seq (.reg none [mv 96 17,
 i1 97 (.un .not (.t 96))] [0, 3, 10, 97])
 (.cond (.t 97) (.seq (.reg none [i1 4 (.mov false (.c (.bool false)))] [4])
 .ret)
 .skip)))))))))
 (.reg none [mv 45 10,
 i1 46 (.bin .add (.t 45) (.c (.int .i64 1))),
 mv 10 46] [0, 3, 10]))))))
 (.seq (.reg none [i1 4 (.mov false (.c (.bool true)))] [4])
 .ret))))))
def res_law20_leads : List IRes := [⟨4, true, none⟩]
theorem is_law20_leads : fnIs Go.Proofs.Try.prog 36 98 res_law20_leads ir_law20_leads = true := by kernel_rfl
theorem law20_leads_fn {f_0 l_1} {B0 B0_get_ : Nat} {s : Store} {Q : List AV → Store → Prop} (hB0 : s B0 = some (.cells [.int .i64 f_0.root_, .int .i64 f_0.count_, .fn 61 [] [.ref B0_get_ 0]])) (hB0_get_ : s B0_get_ = some (.cells [.sl false 6 f_0.get_.Objects.length (flat f_0.get_.Objects), .int .i64 f_0.get_.Root])) (nB0B0_get_ : B0 ≠ B0_get_) : ok (law20_leads f_0 l_1) (fun r => Q [.bool r] s) → FN Go.Proofs.Try.prog 36 [.ref B0 0, .agg [.int .i64 l_1.Page, .sl false 1 l_1.Path.length (flat l_1.Path), .int .i64 l_1.Given.Kind, .int .i64 l_1.Given.N, .str l_1.Given.S.b, .sl false 4 l_1.Given.L.length (flat l_1.Given.L)]] s Q := by
  have hS : s = ((s.set B0 (.cells [.int .i64 f_0.root_, .int .i64 f_0.count_, .fn 61 [] [.ref B0_get_ 0]])).set B0_get_ (.cells [.sl false 6 f_0.get_.Objects.length (flat f_0.get_.Objects), .int .i64 f_0.get_.Root])) := by simp only [set_eq' hB0, set_eq' hB0_get_]
  rw [hS]
  intro h
  refine FN.of (draw_ok mix) is_law20_leads rfl (Nat.le_of_ble_eq_true rfl) ?_
  revert h
  rw [ir_law20_leads, res_law20_leads, law20_leads]
  repeat' (first
    | with_reducible exact tt_to
    | with_reducible refine and_to ?_ ?_
    | with_reducible refine im_to ?_
    | with_reducible refine call_to (fun _ (h : file_File_Root f_0 = some _) => file_File_Root_fe (B0 := B0) (B0_get_ := B0_get_) (by simp -implicitDefEqProofs only [go_sem, start, startE, resVs, resV, resC, allV, retK, Nat.reduceBEq, Nat.reduceAdd, Nat.reduceMul, Nat.reduceLeDiff, Nat.reduceEqDiff, Nat.reduceBNe, Nat.ble_eq, UInt8.reduceToNat, set_ne nB0B0_get_, set_ne nB0B0_get_.symm, set_comm nB0B0_get_]) (by simp -implicitDefEqProofs only [go_sem, start, startE, resVs, resV, resC, allV, retK, Nat.reduceBEq, Nat.reduceAdd, Nat.reduceMul, Nat.reduceLeDiff, Nat.reduceEqDiff, Nat.reduceBNe, Nat.ble_eq, UInt8.reduceToNat, set_ne nB0B0_get_, set_ne nB0B0_get_.symm, set_comm nB0B0_get_]) nB0B0_get_ h) (fun r1 => ?_)
    | with_reducible refine call_to_q (fun _ (h : file_File_Root f_0 = some _) => file_File_Root_fe (B0 := B0) (B0_get_ := B0_get_) (by simp -implicitDefEqProofs only [go_sem, start, startE, resVs, resV, resC, allV, retK, Nat.reduceBEq, Nat.reduceAdd, Nat.reduceMul, Nat.reduceLeDiff, Nat.reduceEqDiff, Nat.reduceBNe, Nat.ble_eq, UInt8.reduceToNat, set_ne nB0B0_get_, set_ne nB0B0_get_.symm, set_comm nB0B0_get_]) (by simp -implicitDefEqProofs only [go_sem, start, startE, resVs, resV, resC, allV, retK, Nat.reduceBEq, Nat.reduceAdd, Nat.reduceMul, Nat.reduceLeDiff, Nat.reduceEqDiff, Nat.reduceBNe, Nat.ble_eq, UInt8.reduceToNat, set_ne nB0B0_get_, set_ne nB0B0_get_.symm, set_comm nB0B0_get_]) nB0B0_get_ h) (fun _ => rfl) (fun r1 => ?_)
    | with_reducible refine call_to (fun _ (h : file_File_Get f_0 r1 = some _) => file_File_Get_fe (B0 := B0) (B0_get_ := B0_get_) (by simp -implicitDefEqProofs only [go_sem, start, startE, resVs, resV, resC, allV, retK, Nat.reduceBEq, Nat.reduceAdd, Nat.reduceMul, Nat.reduceLeDiff, Nat.reduceEqDiff, Nat.reduceBNe, Nat.ble_eq, UInt8.reduceToNat, set_ne nB0B0_get_, set_ne nB0B0_get_.symm, set_comm nB0B0_get_]) (by simp -implicitDefEqProofs only [go_sem, start, startE, resVs, resV, resC, allV, retK, Nat.reduceBEq, Nat.reduceAdd, Nat.reduceMul, Nat.reduceLeDiff, Nat.reduceEqDiff, Nat.reduceBNe, Nat.ble_eq, UInt8.reduceToNat, set_ne nB0B0_get_, set_ne nB0B0_get_.symm, set_comm nB0B0_get_]) nB0B0_get_ h) (fun r2 => ?_)
    | with_reducible refine call_to_q (fun _ (h : file_File_Get f_0 r1 = some _) => file_File_Get_fe (B0 := B0) (B0_get_ := B0_get_) (by simp -implicitDefEqProofs only [go_sem, start, startE, resVs, resV, resC, allV, retK, Nat.reduceBEq, Nat.reduceAdd, Nat.reduceMul, Nat.reduceLeDiff, Nat.reduceEqDiff, Nat.reduceBNe, Nat.ble_eq, UInt8.reduceToNat, set_ne nB0B0_get_, set_ne nB0B0_get_.symm, set_comm nB0B0_get_]) (by simp -implicitDefEqProofs only [go_sem, start, startE, resVs, resV, resC, allV, retK, Nat.reduceBEq, Nat.reduceAdd, Nat.reduceMul, Nat.reduceLeDiff, Nat.reduceEqDiff, Nat.reduceBNe, Nat.ble_eq, UInt8.reduceToNat, set_ne nB0B0_get_, set_ne nB0B0_get_.symm, set_comm nB0B0_get_]) nB0B0_get_ h) (fun _ => rfl) (fun r2 => ?_)
    | with_reducible refine call_to (fun _ (h : value_Get r2.1.V (Str.mk [80, 97, 103, 101, 115]) = some _) => value_Get_fe h) (fun r3 => ?_)
    | with_reducible refine call_to_q (fun _ (h : value_Get r2.1.V (Str.mk [80, 97, 103, 101, 115]) = some _) => value_Get_fe h) (fun _ => rfl) (fun r3 => ?_)
    | with_reducible refine call_to (fun _ (h : value_Get r2.1.V (Str.mk [80, 97, 103, 101, 115]) = some _) => (by refine FE_cast ?_ (value_Get_fe h); simp -implicitDefEqProofs only [go_sem, start, startE, resVs, resV, resC, allV, retK, Nat.reduceBEq, Nat.reduceAdd, Nat.reduceMul, Nat.reduceLeDiff, Nat.reduceEqDiff, Nat.reduceBNe, Nat.ble_eq, UInt8.reduceToNat, set_ne nB0B0_get_, set_ne nB0B0_get_.symm, set_comm nB0B0_get_])) (fun r3 => ?_)
    | with_reducible refine call_to_q (fun _ (h : value_Get r2.1.V (Str.mk [80, 97, 103, 101, 115]) = some _) => (by refine FE_cast ?_ (value_Get_fe h); simp -implicitDefEqProofs only [go_sem, start, startE, resVs, resV, resC, allV, retK, Nat.reduceBEq, Nat.reduceAdd, Nat.reduceMul, Nat.reduceLeDiff, Nat.reduceEqDiff, Nat.reduceBNe, Nat.ble_eq, UInt8.reduceToNat, set_ne nB0B0_get_, set_ne nB0B0_get_.symm, set_comm nB0B0_get_])) (fun _ => rfl) (fun r3 => ?_)
    | with_reducible refine call_to (fun _ (h : file_File_Get f_0 (ix l_1.Path k7) = some _) => file_File_Get_fe (B0 := B0) (B0_get_ := B0_get_) (by simp -implicitDefEqProofs only [go_sem, start, startE, resVs, resV, resC, allV, retK, Nat.reduceBEq, Nat.reduceAdd, Nat.reduceMul, Nat.reduceLeDiff, Nat.reduceEqDiff, Nat.reduceBNe, Nat.ble_eq, UInt8.reduceToNat, set_ne nB0B0_get_, set_ne nB0B0_get_.symm, set_comm nB0B0_get_]) (by simp -implicitDefEqProofs only [go_sem, start, startE, resVs, resV, resC, allV, retK, Nat.reduceBEq, Nat.reduceAdd, Nat.reduceMul, Nat.reduceLeDiff, Nat.reduceEqDiff, Nat.reduceBNe, Nat.ble_eq, UInt8.reduceToNat, set_ne nB0B0_get_, set_ne nB0B0_get_.symm, set_comm nB0B0_get_]) nB0B0_get_ h) (fun r20 => ?_)
    | with_reducible refine call_to_q (fun _ (h : file_File_Get f_0 (ix l_1.Path k7) = some _) => file_File_Get_fe (B0 := B0) (B0_get_ := B0_get_) (by simp -implicitDefEqProofs only [go_sem, start, startE, resVs, resV, resC, allV, retK, Nat.reduceBEq, Nat.reduceAdd, Nat.reduceMul, Nat.reduceLeDiff, Nat.reduceEqDiff, Nat.reduceBNe, Nat.ble_eq, UInt8.reduceToNat, set_ne nB0B0_get_, set_ne nB0B0_get_.symm, set_comm nB0B0_get_]) (by simp -implicitDefEqProofs only [go_sem, start, startE, resVs, resV, resC, allV, retK, Nat.reduceBEq, Nat.reduceAdd, Nat.reduceMul, Nat.reduceLeDiff, Nat.reduceEqDiff, Nat.reduceBNe, Nat.ble_eq, UInt8.reduceToNat, set_ne nB0B0_get_, set_ne nB0B0_get_.symm, set_comm nB0B0_get_]) nB0B0_get_ h) (fun _ => rfl) (fun r20 => ?_)
    | with_reducible refine call_to (fun _ (h : value_Get r20.1.V (Str.mk [75, 105, 100, 115]) = some _) => value_Get_fe h) (fun r21 => ?_)
    | with_reducible refine call_to_q (fun _ (h : value_Get r20.1.V (Str.mk [75, 105, 100, 115]) = some _) => value_Get_fe h) (fun _ => rfl) (fun r21 => ?_)
    | with_reducible refine call_to (fun _ (h : value_Get r20.1.V (Str.mk [75, 105, 100, 115]) = some _) => (by refine FE_cast ?_ (value_Get_fe h); simp -implicitDefEqProofs only [go_sem, start, startE, resVs, resV, resC, allV, retK, Nat.reduceBEq, Nat.reduceAdd, Nat.reduceMul, Nat.reduceLeDiff, Nat.reduceEqDiff, Nat.reduceBNe, Nat.ble_eq, UInt8.reduceToNat, set_ne nB0B0_get_, set_ne nB0B0_get_.symm, set_comm nB0B0_get_])) (fun r21 => ?_)
    | with_reducible refine call_to_q (fun _ (h : value_Get r20.1.V (Str.mk [75, 105, 100, 115]) = some _) => (by refine FE_cast ?_ (value_Get_fe h); simp -implicitDefEqProofs only [go_sem, start, startE, resVs, resV, resC, allV, retK, Nat.reduceBEq, Nat.reduceAdd, Nat.reduceMul, Nat.reduceLeDiff, Nat.reduceEqDiff, Nat.reduceBNe, Nat.ble_eq, UInt8.reduceToNat, set_ne nB0B0_get_, set_ne nB0B0_get_.symm, set_comm nB0B0_get_])) (fun _ => rfl) (fun r21 => ?_)
    | ((with_reducible refine join_to (fun (next18 : Int) => ⟨[(0, .ref B0 0), (3, .loc [.int .i64 l_1.Page, .sl false 1 l_1.Path.length (flat l_1.Path), .int .i64 l_1.Given.Kind, .int .i64 l_1.Given.N, .str l_1.Given.S.b, .sl false 4 l_1.Given.L.length (flat l_1.Given.L)]), (10, .int .i64 k7), (11, .int .i64 next18)], [], ((s.set B0 (.cells [.int .i64 f_0.root_, .int .i64 f_0.count_, .fn 61 [] [.ref B0_get_ 0]])).set B0_get_ (.cells [.sl false 6 f_0.get_.Objects.length (flat f_0.get_.Objects), .int .i64 f_0.get_.Root]))⟩) (fun J => ?_) ?_); rotate_left; rintro next18)
    | ((with_reducible refine iter_to (fun ((is26, j27) : Bool × Int) => ⟨[(0, .ref B0 0), (3, .loc [.int .i64 l_1.Page, .sl false 1 l_1.Path.length (flat l_1.Path), .int .i64 l_1.Given.Kind, .int .i64 l_1.Given.N, .str l_1.Given.S.b, .sl false 4 l_1.Given.L.length (flat l_1.Given.L)]), (10, .int .i64 k7), (11, .int .i64 next18), (15, .loc [.int .i64 r21.1.Kind, .int .i64 r21.1.N, .str r21.1.S.b, .sl false 4 r21.1.L.length (flat r21.1.L)]), (17, .bool is26), (18, .int .i64 j27)], [], ((s.set B0 (.cells [.int .i64 f_0.root_, .int .i64 f_0.count_, .fn 61 [] [.ref B0_get_ 0]])).set B0_get_ (.cells [.sl false 6 f_0.get_.Objects.length (flat f_0.get_.Objects), .int .i64 f_0.get_.Root]))⟩) ?_ ?_); (first | exact rfl | simp -implicitDefEqProofs only [go_sem, start, startE, resVs, resV, resC, allV, retK, Nat.reduceBEq, Nat.reduceAdd, Nat.reduceMul, Nat.reduceLeDiff, Nat.reduceEqDiff, Nat.reduceBNe, Nat.ble_eq, UInt8.reduceToNat, set_ne nB0B0_get_, set_ne nB0B0_get_.symm, set_comm nB0B0_get_]); rintro J ⟨is26, j27⟩)
    | ((with_reducible refine join_to (fun (is24 : Bool) => ⟨[(0, .ref B0 0), (3, .loc [.int .i64 l_1.Page, .sl false 1 l_1.Path.length (flat l_1.Path), .int .i64 l_1.Given.Kind, .int .i64 l_1.Given.N, .str l_1.Given.S.b, .sl false 4 l_1.Given.L.length (flat l_1.Given.L)]), (10, .int .i64 k7), (17, .bool is24)], [], ((s.set B0 (.cells [.int .i64 f_0.root_, .int .i64 f_0.count_, .fn 61 [] [.ref B0_get_ 0]])).set B0_get_ (.cells [.sl false 6 f_0.get_.Objects.length (flat f_0.get_.Objects), .int .i64 f_0.get_.Root]))⟩) (fun J => ?_) ?_); rotate_left; rintro is24)
    | ((with_reducible refine join_toS (fun (_ : Unit) => ⟨[(0, .ref B0 0), (3, .loc [.int .i64 l_1.Page, .sl false 1 l_1.Path.length (flat l_1.Path), .int .i64 l_1.Given.Kind, .int .i64 l_1.Given.N, .str l_1.Given.S.b, .sl false 4 l_1.Given.L.length (flat l_1.Given.L)]), (10, .int .i64 k7)], [], ((s.set B0 (.cells [.int .i64 f_0.root_, .int .i64 f_0.count_, .fn 61 [] [.ref B0_get_ 0]])).set B0_get_ (.cells [.sl false 6 f_0.get_.Objects.length (flat f_0.get_.Objects), .int .i64 f_0.get_.Root]))⟩) (fun J => ?_) ?_); rotate_left; rintro _)
    | ((with_reducible refine iter_to (fun (k7 : Int) => ⟨[(0, .ref B0 0), (3, .loc [.int .i64 l_1.Page, .sl false 1 l_1.Path.length (flat l_1.Path), .int .i64 l_1.Given.Kind, .int .i64 l_1.Given.N, .str l_1.Given.S.b, .sl false 4 l_1.Given.L.length (flat l_1.Given.L)]), (10, .int .i64 k7)], [], ((s.set B0 (.cells [.int .i64 f_0.root_, .int .i64 f_0.count_, .fn 61 [] [.ref B0_get_ 0]])).set B0_get_ (.cells [.sl false 6 f_0.get_.Objects.length (flat f_0.get_.Objects), .int .i64 f_0.get_.Root]))⟩) ?_ ?_); (first | exact rfl | simp -implicitDefEqProofs only [go_sem, start, startE, resVs, resV, resC, allV, retK, Nat.reduceBEq, Nat.reduceAdd, Nat.reduceMul, Nat.reduceLeDiff, Nat.reduceEqDiff, Nat.reduceBNe, Nat.ble_eq, UInt8.reduceToNat, set_ne nB0B0_get_, set_ne nB0B0_get_.symm, set_comm nB0B0_get_]); rintro J k7)
    | ((with_reducible refine join_toS (fun (_ : Unit) => ⟨[], [], ((s.set B0 (.cells [.int .i64 f_0.root_, .int .i64 f_0.count_, .fn 61 [] [.ref B0_get_ 0]])).set B0_get_ (.cells [.sl false 6 f_0.get_.Objects.length (flat f_0.get_.Objects), .int .i64 f_0.get_.Root]))⟩) (fun J => ?_) ?_); rotate_left; rintro _)
    | simp -implicitDefEqProofs only [go_sem, start, startE, resVs, resV, resC, allV, retK, Nat.reduceBEq, Nat.reduceAdd, Nat.reduceMul, Nat.reduceLeDiff, Nat.reduceEqDiff, Nat.reduceBNe, Nat.ble_eq, UInt8.reduceToNat, set_ne nB0B0_get_, set_ne nB0B0_get_.symm, set_comm nB0B0_get_])
theorem law20_leads_fe {f_0 l_1} {B0 B0_get_ : Nat} {s : Store} {r : Bool} (hB0 : s B0 = some (.cells [.int .i64 f_0.root_, .int .i64 f_0.count_, .fn 61 [] [.ref B0_get_ 0]])) (hB0_get_ : s B0_get_ = some (.cells [.sl false 6 f_0.get_.Objects.length (flat f_0.get_.Objects), .int .i64 f_0.get_.Root])) (nB0B0_get_ : B0 ≠ B0_get_) (h : law20_leads f_0 l_1 = some r) : FE Go.Proofs.Try.prog 36 [.ref B0 0, .agg [.int .i64 l_1.Page, .sl false 1 l_1.Path.length (flat l_1.Path), .int .i64 l_1.Given.Kind, .int .i64 l_1.Given.N, .str l_1.Given.S.b, .sl false 4 l_1.Given.L.length (flat l_1.Given.L)]] s [.bool r] s := law20_leads_fn hB0 hB0_get_ nB0B0_get_ ⟨r, h, rfl, rfl⟩
/-- catchword/catchwordlaw20.TreeWay -/
def law20_TreeWay (d_0 : api_Doc) (p_1 : Int) : Option (Bool) :=
  bnd (ref19_Few d_0.Objects 80) fun r1 =>
  if !r1 then
    bnd (law20_works) fun r2 =>
    some r2
  else
    bnd (file_Of d_0) fun r3 =>
    bnd (tree_Find r3 p_1) fun r4 =>
    if r4.2.2 != 0 then
      bnd (whenB ((r4.1.Page == 0) && ((r4.1.Path.length : Int) == 0)) false (law20_works)) fun r5 =>
      some (((r4.1.Page == 0) && ((r4.1.Path.length : Int) == 0)) && r5)
    else
      if ((r4.1.Path.length : Int) == 0) || (decide ((r4.1.Path.length : Int) > 64)) then
        some false
      else
        bnd (file_File_Get r3 r4.1.Page) fun r6 =>
        jnS (
          bndS (
            iter (fun (k11 : Int) =>
              if decide (w64 (k11 + 1) < (r4.1.Given.L.length : Int)) then
                jnS (
                  need (0 ≤ k11 ∧ k11 < r4.1.Given.L.length) <|
                  bnd (value_Get r6.1.V ((ix r4.1.Given.L k11).S)) fun r22 =>
                  if r22.2 then
                    some (.inr false)
                  else
                    jn (
                      iter (fun ((last28, j29) : api_Value × Int) =>
                        if decide (j29 < (r4.1.Path.length : Int)) then
                          jn (
                            need (0 ≤ j29 ∧ j29 < r4.1.Path.length) <|
                            bnd (file_File_Get r3 (ix r4.1.Path j29)) fun r42 =>
                            bnd (value_Get r42.1.V ((ix r4.1.Given.L k11).S)) fun r43 =>
                            if r43.2 then
                              some r43.1
                            else
                              some last28) fun (last39 : api_Value) =>
                          some (.inl (last39, w64 (j29 + 1)))
                        else
                          some (.inr last28)) ((api_Value.mk 0 0 (Str.mk []) ([] : List api_Value)), 0)) fun (last26 : api_Value) =>
                    need (0 ≤ w64 (k11 + 1) ∧ w64 (k11 + 1) < r4.1.Given.L.length) <|
                    bnd (value_Same last26 (ix r4.1.Given.L (w64 (k11 + 1)))) fun r44 =>
                    if !r44 then
                      some (.inr false)
                    else
                      some (.inl ())) (fun (_ : Unit) =>
                  some (.inl (w64 (k11 + 2))))
                (fun (t20 : Bool) => some (.inr (.inr t20)))
              else
                some (.inr (.inl ()))) 0) (fun (_ : Unit) =>
            some (.inl ()))
          (fun (t14 : Bool) => some (.inr t14))) (fun (_ : Unit) =>
          bnd (law20_leads r3 r4.1) fun r45 =>
          bnd (whenB r45 false (law20_works)) fun r46 =>
          some (r45 && r46))
        (fun (t9 : Bool) => some t9)
def ir_law20_TreeWay : IC :=
 (.seq (.reg none [i1 2 (.boxL 2 (.t 0)),
 i1 4 (.mov false (.c (.bool false)))] [1, 2])
 (.seq (.seq (.reg none [i1 23 (.fieldAddr 0 (.t 2)),
 i1 24 (.load 1 false (.t 23)),
 i1 25 (.call 18 [(.t 24), (.c (.int .i64 80))]),
 i1 26 (.un .not (.t 25))] [1, 2, 26])
 (.cond (.t 26) (.seq (.reg none [i1 27 (.call 26 []),
 mv 4 27] [4])
 .ret)
 .skip))
 (.seq (.reg none [i1 28 (.load 2 true (.t 2)),
 i1 29 (.call 21 [(.t 28)]),
 mv 5 29] [1, 5])
 (.seq (.reg none [mv 31 5,
 mv 32 1,
 i1 33 (.call 33 [(.t 31), (.t 32)]),
 i1 30 (.movT (.t 33)),
 i1 34 (.extract (.t 30) 0),
 i1 35 (.extract (.t 30) 1),
 i1 36 (.extract (.t 30) 2),
 i1 6 (.allocL [.int .i64 0, .sl true 1 0 [], .int .i64 0, .int .i64 0, .str [], .sl true 4 0 []]),
 i0 (.store 6 (.t 6) (.t 34)),
 mv 7 35,
 mv 8 36] [5, 6, 8])
 (.seq (.seq (.reg none [mv 37 8,
 i1 38 (.bin .neq (.t 37) (.c (.int .i64 0)))] [5, 6, 38])
 (.cond (.t 38) (.seq (.reg (some 11) [i1 39 (.fieldAddr 0 (.t 6)),
 i1 40 (.load 1 false (.t 39)),
 i1 41 (.bin .eql (.t 40) (.c (.int .i64 0))),
 mv 42 41,
 i1g 43 42 true (.fieldAddr 1 (.t 6)),
 i1g 44 42 true (.load 1 false (.t 43)),
 i1g 45 42 true (.len 0 (.t 44)),
 i1g 46 42 true (.bin .eql (.t 45) (.c (.int .i64 0))),
 i1 47 (.pick (.t 42) (.t 46) (.c (.bool false))),
 mv 48 47,
 i1g 49 48 true (.call 26 []),
 i1 50 (.pick (.t 48) (.t 49) (.c (.bool false))),
 mv 4 50] [4])
 .ret)
 .skip))
 (.seq (.seq (.reg none [i1 51 (.fieldAddr 1 (.t 6)),
 i1 52 (.load 1 false (.t 51)),
 i1 53 (.len 0 (.t 52)),
 i1 54 (.bin .eql (.t 53) (.c (.int .i64 0))),
 mv 55 54,
 i1g 56 55 false (.fieldAddr 1 (.t 6)),
 i1g 57 55 false (.load 1 false (.t 56)),
 i1g 58 55 false (.len 0 (.t 57)),
 i1g 59 55 false (.bin .gtr (.t 58) (.c (.int .i64 64))),
 i1 60 (.pick (.t 55) (.c (.bool true)) (.t 59))] [5, 6, 60])
 (.cond (.t 60) (.seq (.reg none [i1 4 (.mov false (.c (.bool false)))] [4])
 .ret)
 .skip))
 (.seq (.reg none [mv 62 5,
 i1 63 (.fieldAddr 0 (.t 6)),
 i1 64 (.load 1 false (.t 63)),
 i1 65 (.call 34 [(.t 62), (.t 64)]),
 i1 61 (.movT (.t 65)),
 i1 66 (.extract (.t 61) 0),
 i1 67 (.extract (.t 61) 1),
 i1 68 (.extract (.t 61) 2),
 i1 9 (.allocL [.int .i64 0, .int .i64 0, .str [], .sl true 4 0 [], .bool false, .str []]),
 i0 (.store 6 (.t 9) (.t 66)),
 mv 10 67,
 mv 11 68] [5, 6, 9])
 (.join [(5, false), (6, false)] (.seq (.reg none [i1 12 (.mov false (.c (.int .i64 0)))] [5, 6, 9, 12])
 (.block 0 (.loop [(5, false), (6, false), (9, false), (12, false)] (.seq (.seq (.reg none [mv 69 12,
 i1 70 (.bin .add (.t 69) (.c (.int .i64 1))),
 i1 71 (.fieldAddr 2 (.t 6)),
 i1 72 (.fieldAddr 3 (.t 71)),
 i1 73 (.load 1 false (.t 72)),
 i1 74 (.len 0 (.t 73)),
 i1 75 (.bin .lss (.t 70) (.t 74))] [5, 6, 9, 12, 75])
 (.cond (.t 75) .skip
 (.exit 0)))
 (.join [(5, false), (6, false), (9, false), (12, false)] (.block 1 (.seq (.reg none [i1 78 (.fieldAddr 2 (.t 6)),
 i1 79 (.fieldAddr 3 (.t 78)),
 i1 80 (.load 1 false (.t 79)),
 mv 81 12,
 i1 82 (.indexAddr [.int .i64 0, .int .i64 0, .str [], .sl false 4 0 []] (.t 80) (.t 81)),
 i1 83 (.fieldAddr 2 (.t 82)),
 i1 84 (.load 1 false (.t 83)),
 mv 13 84] [5, 6, 9, 12, 13])
 (.seq (.seq (.reg none [i1 86 (.fieldAddr 0 (.t 9)),
 i1 87 (.load 4 true (.t 86)),
 mv 88 13,
 i1 89 (.call 30 [(.t 87), (.t 88)]),
 i1 85 (.movT (.t 89)),
 i1 90 (.extract (.t 85) 0),
 i1 91 (.extract (.t 85) 1),
 i1 14 (.allocL [.int .i64 0, .int .i64 0, .str [], .sl true 4 0 []]),
 i0 (.store 4 (.t 14) (.t 90)),
 mv 15 91] [5, 6, 9, 12, 13, 15])
 (.seq (.reg none [mv 92 15] [5, 6, 9, 12, 13, 92])
 (.cond (.t 92) (.seq (.reg none [i1 4 (.mov false (.c (.bool false)))] [4])
 .ret)
 .skip)))
 (.seq (.reg none [i1 93 (.build [.int .i64 0, .int .i64 0, .str [], .sl true 4 0 []] []),
 i1 16 (.allocL [.int .i64 0, .int .i64 0, .str [], .sl true 4 0 []]),
 i0 (.store 4 (.t 16) (.t 93))] [5, 6, 9, 12, 13, 16])
 (.join [(5, false), (6, false), (9, false), (12, false), (16, false)] (.seq (.reg none [i1 17 (.mov false (.c (.int .i64 0)))] [5, 6, 9, 12, 13, 16, 17])
 (.block 2 (.loop [(5, false), (6, false), (9, false), (12, false), (13, false), (16, false), (17, false)] (.seq (.seq (.reg none [mv 94 17,
 i1 95 (.fieldAddr 1 (.t 6)),
 i1 96 (.load 1 false (.t 95)),
 i1 97 (.len 0 (.t 96)),
 i1 98 (.bin .lss (.t 94) (.t 97))] [5, 6, 9, 12, 13, 16, 17, 98])
 (.cond (.t 98) .skip
 (.exit 2)))
 (.join [(5, false), (6, false), (9, false), (12, false), (13, false), (16, false), (17, false)] (.block 3 (.seq (.reg none [mv 102 5,
 i1 103 (.fieldAddr 1 (.t 6)),
 i1 104 (.load 1 false (.t 103)),
 mv 105 17,
 i1 106 (.indexAddr [.int .i64 0] (.t 104) (.t 105)),
 i1 107 (.load 1 false (.t 106)),
 i1 108 (.call 34 [(.t 102), (.t 107)]),
 i1 101 (.movT (.t 108)),
 i1 109 (.extract (.t 101) 0),
 i1 110 (.extract (.t 101) 1),
 i1 111 (.extract (.t 101) 2),
 i1 18 (.allocL [.int .i64 0, .int .i64 0, .str [], .sl true 4 0 [], .bool false, .str []]),
 i0 (.store 6 (.t 18) (.t 109)),
 mv 19 110,
 mv 20 111] [5, 6, 9, 12, 13, 16, 17, 18])
 (.seq (.reg none [i1 113 (.fieldAddr 0 (.t 18)),
 i1 114 (.load 4 true (.t 113)),
 mv 115 13,
 i1 116 (.call 30 [(.t 114), (.t 115)]),
 i1 112 (.movT (.t 116)),
 i1 117 (.extract (.t 112) 0),
 i1 118 (.extract (.t 112) 1),
 i1 21 (.allocL [.int .i64 0, .int .i64 0, .str [], .sl true 4 0 []]),
 i0 (.store 4 (.t 21) (.t 117)),
 mv 22 118] [5, 6, 9, 12, 13, 16, 17, 21, 22])
 (.seq (.reg none [mv 119 22] [5, 6, 9, 12, 13, 16, 17, 21, 119])
 (.cond (.t 119) (.reg none [i1 120 (.load 4 true (.t 21)),
 i0 (.store 4 (.t 16) (.t 120))] [5, 6, 9, 12, 13, 16, 17])
 .skip)))))
 (.reg none [mv 99 17,
 i1 100 (.bin .add (.t 99) (.c (.int .i64 1))),
 mv 17 100] [5, 6, 9, 12, 13, 16, 17]))))))
 (.seq (.reg (some 10) [i1 121 (.load 4 true (.t 16)),
 i1 122 (.fieldAddr 2 (.t 6)),
 i1 123 (.fieldAddr 3 (.t 122)),
 i1 124 (.load 1 false (.t 123)),
 mv 125 12,
 i1 126 (.bin .add (.t 125) (.c (.int .i64 1))),
 i1 127 (.indexAddr [.int .i64 0, .int .i64 0, .str [], .sl false 4 0 []] (.t 124) (.t 126)),
 i1 128 (.load 4 true (.t 127)),
 i1 129 (.call 35 [(.t 121), (.t 128)]),
 i1 130 (.un .not (.t 129))] [5, 6, 9, 12, 130])
 (.cond (.t 130) (.seq (.reg none [i1 4 (.mov false (.c (.bool false)))] [4])
 .ret)
 .skip)))))))
 (.reg none [mv 76 12,
 i1 77 (.bin .add (.t 76) (.c (.int .i64 2))),
 mv 12 77] [5, 6, 9, 12]))))))
 (.seq (.reg (some 5) [mv 131 5,
 i1 132 (.load 6 true (.t 6)),
 i1 133 (.call 36 [(.t 131), (.t 132)]),
 mv 134 133,
 i1g 135 134 true (.call 26 []),
 i1 136 (.pick (.t 134) (.t 135) (.c (.bool false))),
 mv 4 136] [4])
 .ret)))))))))
def res_law20_TreeWay : List IRes := [⟨4, true, none⟩]
theorem is_law20_TreeWay : fnIs Go.Proofs.Try.prog 6 137 res_law20_TreeWay ir_law20_TreeWay = true := by kernel_rfl
theorem law20_TreeWay_fn {d_0 p_1} {s : Store} {Q : List AV → Store → Prop}  : ok (law20_TreeWay d_0 p_1) (fun r => Q [.bool r] s) → FN Go.Proofs.Try.prog 6 [.agg [.sl false 6 d_0.Objects.length (flat d_0.Objects), .int .i64 d_0.Root], .int .i64 p_1] s Q := by
  intro h
  refine FN.forget ?_
  refine FN.of (draw_ok mix) is_law20_TreeWay rfl (Nat.le_of_ble_eq_true rfl) ?_
  revert h
  rw [ir_law20_TreeWay, res_law20_TreeWay, law20_TreeWay]
  repeat' (first
    | with_reducible exact tt_to
    | with_reducible refine and_to ?_ ?_
    | with_reducible refine im_to ?_
    | with_reducible refine call_to (fun _ (h : ref19_Few d_0.Objects 80 = some _) => ref19_Few_fe h) (fun r1 => ?_)
    | with_reducible refine call_to_q (fun _ (h : ref19_Few d_0.Objects 80 = some _) => ref19_Few_fe h) (fun _ => rfl) (fun r1 => ?_)
    | with_reducible refine call_to (fun _ (h : ref19_Few d_0.Objects 80 = some _) => (by refine FE_cast ?_ (ref19_Few_fe h); simp -implicitDefEqProofs only [go_sem, start, startE, resVs, resV, resC, allV, retK, Nat.reduceBEq, Nat.reduceAdd, Nat.reduceMul, Nat.reduceLeDiff, Nat.reduceEqDiff, Nat.reduceBNe, Nat.ble_eq, UInt8.reduceToNat])) (fun r1 => ?_)
    | with_reducible refine call_to_q (fun _ (h : ref19_Few d_0.Objects 80 = some _) => (by refine FE_cast ?_ (ref19_Few_fe h); simp -implicitDefEqProofs only [go_sem, start, startE, resVs, resV, resC, allV, retK, Nat.reduceBEq, Nat.reduceAdd, Nat.reduceMul, Nat.reduceLeDiff, Nat.reduceEqDiff, Nat.reduceBNe, Nat.ble_eq, UInt8.reduceToNat])) (fun _ => rfl) (fun r1 => ?_)
    | ((fail_if_success (have _x := r2)); with_reducible refine call_to (fun _ (h : law20_works = some _) => law20_works_fe h) (fun r2 => ?_))
    | ((fail_if_success (have _x := r2)); with_reducible refine call_to_q (fun _ (h : law20_works = some _) => law20_works_fe h) (fun _ => rfl) (fun r2 => ?_))
    | ((fail_if_success (have _x := r2)); with_reducible refine call_to (fun _ (h : law20_works = some _) => (by refine FE_cast ?_ (law20_works_fe h); simp -implicitDefEqProofs only [go_sem, start, startE, resVs, resV, resC, allV, retK, Nat.reduceBEq, Nat.reduceAdd, Nat.reduceMul, Nat.reduceLeDiff, Nat.reduceEqDiff, Nat.reduceBNe, Nat.ble_eq, UInt8.reduceToNat])) (fun r2 => ?_))
    | ((fail_if_success (have _x := r2)); with_reducible refine call_to_q (fun _ (h : law20_works = some _) => (by refine FE_cast ?_ (law20_works_fe h); simp -implicitDefEqProofs only [go_sem, start, startE, resVs, resV, resC, allV, retK, Nat.reduceBEq, Nat.reduceAdd, Nat.reduceMul, Nat.reduceLeDiff, Nat.reduceEqDiff, Nat.reduceBNe, Nat.ble_eq, UInt8.reduceToNat])) (fun _ => rfl) (fun r2 => ?_))
    | with_reducible refine fun hh => file_Of_fn (ok_mono (show ok (file_Of d_0) _ from hh) fun r3 => ?_)
    | with_reducible refine call_to (fun _ (h : tree_Find r3 p_1 = some _) => tree_Find_fe (B0 := N2) (B0_get_ := N1) (by simp -implicitDefEqProofs only [go_sem, start, startE, resVs, resV, resC, allV, retK, Nat.reduceBEq, Nat.reduceAdd, Nat.reduceMul, Nat.reduceLeDiff, Nat.reduceEqDiff, Nat.reduceBNe, Nat.ble_eq, UInt8.reduceToNat, set_ne nN2N1, set_ne nN2N1.symm, set_comm nN2N1.symm]) (by simp -implicitDefEqProofs only [go_sem, start, startE, resVs, resV, resC, allV, retK, Nat.reduceBEq, Nat.reduceAdd, Nat.reduceMul, Nat.reduceLeDiff, Nat.reduceEqDiff, Nat.reduceBNe, Nat.ble_eq, UInt8.reduceToNat, set_ne nN2N1, set_ne nN2N1.symm, set_comm nN2N1.symm]) nN2N1 h) (fun r4 => ?_)
    | with_reducible refine call_to_q (fun _ (h : tree_Find r3 p_1 = some _) => tree_Find_fe (B0 := N2) (B0_get_ := N1) (by simp -implicitDefEqProofs only [go_sem, start, startE, resVs, resV, resC, allV, retK, Nat.reduceBEq, Nat.reduceAdd, Nat.reduceMul, Nat.reduceLeDiff, Nat.reduceEqDiff, Nat.reduceBNe, Nat.ble_eq, UInt8.reduceToNat, set_ne nN2N1, set_ne nN2N1.symm, set_comm nN2N1.symm]) (by simp -implicitDefEqProofs only [go_sem, start, startE, resVs, resV, resC, allV, retK, Nat.reduceBEq, Nat.reduceAdd, Nat.reduceMul, Nat.reduceLeDiff, Nat.reduceEqDiff, Nat.reduceBNe, Nat.ble_eq, UInt8.reduceToNat, set_ne nN2N1, set_ne nN2N1.symm, set_comm nN2N1.symm]) nN2N1 h) (fun _ => rfl) (fun r4 => ?_)
    | ((fail_if_success (have _x := r5)); with_reducible refine call_to_g rfl (fun _ (h : law20_works = some _) => law20_works_fe h) (fun _ => rfl) (fun r5 => ?_))
    | ((fail_if_success (have _x := r5)); with_reducible refine call_to_g rfl (fun _ (h : law20_works = some _) => (by refine FE_cast ?_ (law20_works_fe h); simp -implicitDefEqProofs only [go_sem, start, startE, resVs, resV, resC, allV, retK, Nat.reduceBEq, Nat.reduceAdd, Nat.reduceMul, Nat.reduceLeDiff, Nat.reduceEqDiff, Nat.reduceBNe, Nat.ble_eq, UInt8.reduceToNat])) (fun _ => rfl) (fun r5 => ?_))
    | with_reducible refine call_to (fun _ (h : file_File_Get r3 r4.1.Page = some _) => file_File_Get_fe (B0 := N2) (B0_get_ := N1) (by simp -implicitDefEqProofs only [go_sem, start, startE, resVs, resV, resC, allV, retK, Nat.reduceBEq, Nat.reduceAdd, Nat.reduceMul, Nat.reduceLeDiff, Nat.reduceEqDiff, Nat.reduceBNe, Nat.ble_eq, UInt8.reduceToNat, set_ne nN2N1, set_ne nN2N1.symm, set_comm nN2N1.symm]) (by simp -implicitDefEqProofs only [go_sem, start, startE, resVs, resV, resC, allV, retK, Nat.reduceBEq, Nat.reduceAdd, Nat.reduceMul, Nat.reduceLeDiff, Nat.reduceEqDiff, Nat.reduceBNe, Nat.ble_eq, UInt8.reduceToNat, set_ne nN2N1, set_ne nN2N1.symm, set_comm nN2N1.symm]) nN2N1 h) (fun r6 => ?_)
    | with_reducible refine call_to_q (fun _ (h : file_File_Get r3 r4.1.Page = some _) => file_File_Get_fe (B0 := N2) (B0_get_ := N1) (by simp -implicitDefEqProofs only [go_sem, start, startE, resVs, resV, resC, allV, retK, Nat.reduceBEq, Nat.reduceAdd, Nat.reduceMul, Nat.reduceLeDiff, Nat.reduceEqDiff, Nat.reduceBNe, Nat.ble_eq, UInt8.reduceToNat, set_ne nN2N1, set_ne nN2N1.symm, set_comm nN2N1.symm]) (by simp -implicitDefEqProofs only [go_sem, start, startE, resVs, resV, resC, allV, retK, Nat.reduceBEq, Nat.reduceAdd, Nat.reduceMul, Nat.reduceLeDiff, Nat.reduceEqDiff, Nat.reduceBNe, Nat.ble_eq, UInt8.reduceToNat, set_ne nN2N1, set_ne nN2N1.symm, set_comm nN2N1.symm]) nN2N1 h) (fun _ => rfl) (fun r6 => ?_)
    | with_reducible refine call_to (fun _ (h : value_Get r6.1.V ((ix r4.1.Given.L k11).S) = some _) => value_Get_fe h) (fun r22 => ?_)
    | with_reducible refine call_to_q (fun _ (h : value_Get r6.1.V ((ix r4.1.Given.L k11).S) = some _) => value_Get_fe h) (fun _ => rfl) (fun r22 => ?_)
    | with_reducible refine call_to (fun _ (h : value_Get r6.1.V ((ix r4.1.Given.L k11).S) = some _) => (by refine FE_cast ?_ (value_Get_fe h); simp -implicitDefEqProofs only [go_sem, start, startE, resVs, resV, resC, allV, retK, Nat.reduceBEq, Nat.reduceAdd, Nat.reduceMul, Nat.reduceLeDiff, Nat.reduceEqDiff, Nat.reduceBNe, Nat.ble_eq, UInt8.reduceToNat])) (fun r22 => ?_)
    | with_reducible refine call_to_q (fun _ (h : value_Get r6.1.V ((ix r4.1.Given.L k11).S) = some _) => (by refine FE_cast ?_ (value_Get_fe h); simp -implicitDefEqProofs only [go_sem, start, startE, resVs, resV, resC, allV, retK, Nat.reduceBEq, Nat.reduceAdd, Nat.reduceMul, Nat.reduceLeDiff, Nat.reduceEqDiff, Nat.reduceBNe, Nat.ble_eq, UInt8.reduceToNat])) (fun _ => rfl) (fun r22 => ?_)
    | with_reducible refine call_to (fun _ (h : file_File_Get r3 (ix r4.1.Path j29) = some _) => file_File_Get_fe (B0 := N2) (B0_get_ := N1) (by simp -implicitDefEqProofs only [go_sem, start, startE, resVs, resV, resC, allV, retK, Nat.reduceBEq, Nat.reduceAdd, Nat.reduceMul, Nat.reduceLeDiff, Nat.reduceEqDiff, Nat.reduceBNe, Nat.ble_eq, UInt8.reduceToNat, set_ne nN2N1, set_ne nN2N1.symm, set_comm nN2N1.symm]) (by simp -implicitDefEqProofs only [go_sem, start, startE, resVs, resV, resC, allV, retK, Nat.reduceBEq, Nat.reduceAdd, Nat.reduceMul, Nat.reduceLeDiff, Nat.reduceEqDiff, Nat.reduceBNe, Nat.ble_eq, UInt8.reduceToNat, set_ne nN2N1, set_ne nN2N1.symm, set_comm nN2N1.symm]) nN2N1 h) (fun r42 => ?_)
    | with_reducible refine call_to_q (fun _ (h : file_File_Get r3 (ix r4.1.Path j29) = some _) => file_File_Get_fe (B0 := N2) (B0_get_ := N1) (by simp -implicitDefEqProofs only [go_sem, start, startE, resVs, resV, resC, allV, retK, Nat.reduceBEq, Nat.reduceAdd, Nat.reduceMul, Nat.reduceLeDiff, Nat.reduceEqDiff, Nat.reduceBNe, Nat.ble_eq, UInt8.reduceToNat, set_ne nN2N1, set_ne nN2N1.symm, set_comm nN2N1.symm]) (by simp -implicitDefEqProofs only [go_sem, start, startE, resVs, resV, resC, allV, retK, Nat.reduceBEq, Nat.reduceAdd, Nat.reduceMul, Nat.reduceLeDiff, Nat.reduceEqDiff, Nat.reduceBNe, Nat.ble_eq, UInt8.reduceToNat, set_ne nN2N1, set_ne nN2N1.symm, set_comm nN2N1.symm]) nN2N1 h) (fun _ => rfl) (fun r42 => ?_)
    | with_reducible refine call_to (fun _ (h : value_Get r42.1.V ((ix r4.1.Given.L k11).S) = some _) => value_Get_fe h) (fun r43 => ?_)
    | with_reducible refine call_to_q (fun _ (h : value_Get r42.1.V ((ix r4.1.Given.L k11).S) = some _) => value_Get_fe h) (fun _ => rfl) (fun r43 => ?_)
    | with_reducible refine call_to (fun _ (h : value_Get r42.1.V ((ix r4.1.Given.L k11).S) = some _) => (by refine FE_cast ?_ (value_Get_fe h); simp -implicitDefEqProofs only [go_sem, start, startE, resVs, resV, resC, allV, retK, Nat.reduceBEq, Nat.reduceAdd, Nat.reduceMul, Nat.reduceLeDiff, Nat.reduceEqDiff, Nat.reduceBNe, Nat.ble_eq, UInt8.reduceToNat])) (fun r43 => ?_)
    | with_reducible refine call_to_q (fun _ (h : value_Get r42.1.V ((ix r4.1.Given.L k11).S) = some _) => (by refine FE_cast ?_ (value_Get_fe h); simp -implicitDefEqProofs only [go_sem, start, startE, resVs, resV, resC, allV, retK, Nat.reduceBEq, Nat.reduceAdd, Nat.reduceMul, Nat.reduceLeDiff, Nat.reduceEqDiff, Nat.reduceBNe, Nat.ble_eq, UInt8.reduceToNat])) (fun _ => rfl) (fun r43 => ?_)
    | with_reducible refine call_to (fun _ (h : value_Same last26 (ix r4.1.Given.L (w64 (k11 + 1))) = some _) => value_Same_fe h) (fun r44 => ?_)
    | with_reducible refine call_to_q (fun _ (h : value_Same last26 (ix r4.1.Given.L (w64 (k11 + 1))) = some _) => value_Same_fe h) (fun _ => rfl) (fun r44 => ?_)
    | with_reducible refine call_to (fun _ (h : value_Same last26 (ix r4.1.Given.L (w64 (k11 + 1))) = some _) => (by refine FE_cast ?_ (value_Same_fe h); simp -implicitDefEqProofs only [go_sem, start, startE, resVs, resV, resC, allV, retK, Nat.reduceBEq, Nat.reduceAdd, Nat.reduceMul, Nat.reduceLeDiff, Nat.reduceEqDiff, Nat.reduceBNe, Nat.ble_eq, UInt8.reduceToNat])) (fun r44 => ?_)
    | with_reducible refine call_to_q (fun _ (h : value_Same last26 (ix r4.1.Given.L (w64 (k11 + 1))) = some _) => (by refine FE_cast ?_ (value_Same_fe h); simp -implicitDefEqProofs only [go_sem, start, startE, resVs, resV, resC, allV, retK, Nat.reduceBEq, Nat.reduceAdd, Nat.reduceMul, Nat.reduceLeDiff, Nat.reduceEqDiff, Nat.reduceBNe, Nat.ble_eq, UInt8.reduceToNat])) (fun _ => rfl) (fun r44 => ?_)
    | with_reducible refine call_to (fun _ (h : law20_leads r3 r4.1 = some _) => law20_leads_fe (B0 := N2) (B0_get_ := N1) (by simp -implicitDefEqProofs only [go_sem, start, startE, resVs, resV, resC, allV, retK, Nat.reduceBEq, Nat.reduceAdd, Nat.reduceMul, Nat.reduceLeDiff, Nat.reduceEqDiff, Nat.reduceBNe, Nat.ble_eq, UInt8.reduceToNat, set_ne nN2N1, set_ne nN2N1.symm, set_comm nN2N1.symm]) (by simp -implicitDefEqProofs only [go_sem, start, startE, resVs, resV, resC, allV, retK, Nat.reduceBEq, Nat.reduceAdd, Nat.reduceMul, Nat.reduceLeDiff, Nat.reduceEqDiff, Nat.reduceBNe, Nat.ble_eq, UInt8.reduceToNat, set_ne nN2N1, set_ne nN2N1.symm, set_comm nN2N1.symm]) nN2N1 h) (fun r45 => ?_)
    | with_reducible refine call_to_q (fun _ (h : law20_leads r3 r4.1 = some _) => law20_leads_fe (B0 := N2) (B0_get_ := N1) (by simp -implicitDefEqProofs only [go_sem, start, startE, resVs, resV, resC, allV, retK, Nat.reduceBEq, Nat.reduceAdd, Nat.reduceMul, Nat.reduceLeDiff, Nat.reduceEqDiff, Nat.reduceBNe, Nat.ble_eq, UInt8.reduceToNat, set_ne nN2N1, set_ne nN2N1.symm, set_comm nN2N1.symm]) (by simp -implicitDefEqProofs only [go_sem, start, startE, resVs, resV, resC, allV, retK, Nat.reduceBEq, Nat.reduceAdd, Nat.reduceMul, Nat.reduceLeDiff, Nat.reduceEqDiff, Nat.reduceBNe, Nat.ble_eq, UInt8.reduceToNat, set_ne nN2N1, set_ne nN2N1.symm, set_comm nN2N1.symm]) nN2N1 h) (fun _ => rfl) (fun r45 => ?_)
    | ((fail_if_success (have _x := r46)); with_reducible refine call_to_g rfl (fun _ (h : law20_works = some _) => law20_works_fe h) (fun _ => rfl) (fun r46 => ?_))
    | ((fail_if_success (have _x := r46)); with_reducible refine call_to_g rfl (fun _ (h : law20_works = some _) => (by refine FE_cast ?_ (law20_works_fe h); simp -implicitDefEqProofs only [go_sem, start, startE, resVs, resV, resC, allV, retK, Nat.reduceBEq, Nat.reduceAdd, Nat.reduceMul, Nat.reduceLeDiff, Nat.reduceEqDiff, Nat.reduceBNe, Nat.ble_eq, UInt8.reduceToNat])) (fun _ => rfl) (fun r46 => ?_))
    | ((with_reducible refine join_to (fun (last39 : api_Value) => ⟨[(5, .ref N2 0), (6, .loc [.int .i64 r4.1.Page, .sl false 1 r4.1.Path.length (flat r4.1.Path), .int .i64 r4.1.Given.Kind, .int .i64 r4.1.Given.N, .str r4.1.Given.S.b, .sl false 4 r4.1.Given.L.length (flat r4.1.Given.L)]), (9, .loc [.int .i64 r6.1.V.Kind, .int .i64 r6.1.V.N, .str r6.1.V.S.b, .sl false 4 r6.1.V.L.length (flat r6.1.V.L), .bool r6.1.Stream, .str r6.1.Data.b]), (12, .int .i64 k11), (13, .str ((ix r4.1.Given.L k11).S).b), (16, .loc [.int .i64 last39.Kind, .int .i64 last39.N, .str last39.S.b, .sl false 4 last39.L.length (flat last39.L)]), (17, .int .i64 j29)], [], ((s.set N1 (.cells [.sl false 6 r3.get_.Objects.length (flat r3.get_.Objects), .int .i64 r3.get_.Root])).set N2 (.cells [.int .i64 r3.root_, .int .i64 r3.count_, .fn 61 [] [.ref N1 0]]))⟩) (fun J => ?_) ?_); rotate_left; rintro last39)
    | ((with_reducible refine iter_to (fun ((last28, j29) : api_Value × Int) => ⟨[(5, .ref N2 0), (6, .loc [.int .i64 r4.1.Page, .sl false 1 r4.1.Path.length (flat r4.1.Path), .int .i64 r4.1.Given.Kind, .int .i64 r4.1.Given.N, .str r4.1.Given.S.b, .sl false 4 r4.1.Given.L.length (flat r4.1.Given.L)]), (9, .loc [.int .i64 r6.1.V.Kind, .int .i64 r6.1.V.N, .str r6.1.V.S.b, .sl false 4 r6.1.V.L.length (flat r6.1.V.L), .bool r6.1.Stream, .str r6.1.Data.b]), (12, .int .i64 k11), (13, .str ((ix r4.1.Given.L k11).S).b), (16, .loc [.int .i64 last28.Kind, .int .i64 last28.N, .str last28.S.b, .sl false 4 last28.L.length (flat last28.L)]), (17, .int .i64 j29)], [], ((s.set N1 (.cells [.sl false 6 r3.get_.Objects.length (flat r3.get_.Objects), .int .i64 r3.get_.Root])).set N2 (.cells [.int .i64 r3.root_, .int .i64 r3.count_, .fn 61 [] [.ref N1 0]]))⟩) ?_ ?_); (first | exact rfl | simp -implicitDefEqProofs only [go_sem, start, startE, resVs, resV, resC, allV, retK, Nat.reduceBEq, Nat.reduceAdd, Nat.reduceMul, Nat.reduceLeDiff, Nat.reduceEqDiff, Nat.reduceBNe, Nat.ble_eq, UInt8.reduceToNat, set_ne nN2N1, set_ne nN2N1.symm, set_comm nN2N1.symm]); rintro J ⟨last28, j29⟩)
    | ((with_reducible refine join_to (fun (last26 : api_Value) => ⟨[(5, .ref N2 0), (6, .loc [.int .i64 r4.1.Page, .sl false 1 r4.1.Path.length (flat r4.1.Path), .int .i64 r4.1.Given.Kind, .int .i64 r4.1.Given.N, .str r4.1.Given.S.b, .sl false 4 r4.1.Given.L.length (flat r4.1.Given.L)]), (9, .loc [.int .i64 r6.1.V.Kind, .int .i64 r6.1.V.N, .str r6.1.V.S.b, .sl false 4 r6.1.V.L.length (flat r6.1.V.L), .bool r6.1.Stream, .str r6.1.Data.b]), (12, .int .i64 k11), (16, .loc [.int .i64 last26.Kind, .int .i64 last26.N, .str last26.S.b, .sl false 4 last26.L.length (flat last26.L)])], [], ((s.set N1 (.cells [.sl false 6 r3.get_.Objects.length (flat r3.get_.Objects), .int .i64 r3.get_.Root])).set N2 (.cells [.int .i64 r3.root_, .int .i64 r3.count_, .fn 61 [] [.ref N1 0]]))⟩) (fun J => ?_) ?_); rotate_left; rintro last26)
    | ((with_reducible refine join_toS (fun (_ : Unit) => ⟨[(5, .ref N2 0), (6, .loc [.int .i64 r4.1.Page, .sl false 1 r4.1.Path.length (flat r4.1.Path), .int .i64 r4.1.Given.Kind, .int .i64 r4.1.Given.N, .str r4.1.Given.S.b, .sl false 4 r4.1.Given.L.length (flat r4.1.Given.L)]), (9, .loc [.int .i64 r6.1.V.Kind, .int .i64 r6.1.V.N, .str r6.1.V.S.b, .sl false 4 r6.1.V.L.length (flat r6.1.V.L), .bool r6.1.Stream, .str r6.1.Data.b]), (12, .int .i64 k11)], [], ((s.set N1 (.cells [.sl false 6 r3.get_.Objects.length (flat r3.get_.Objects), .int .i64 r3.get_.Root])).set N2 (.cells [.int .i64 r3.root_, .int .i64 r3.count_, .fn 61 [] [.ref N1 0]]))⟩) (fun J => ?_) ?_); rotate_left; rintro _)
    | ((with_reducible refine iter_to (fun (k11 : Int) => ⟨[(5, .ref N2 0), (6, .loc [.int .i64 r4.1.Page, .sl false 1 r4.1.Path.length (flat r4.1.Path), .int .i64 r4.1.Given.Kind, .int .i64 r4.1.Given.N, .str r4.1.Given.S.b, .sl false 4 r4.1.Given.L.length (flat r4.1.Given.L)]), (9, .loc [.int .i64 r6.1.V.Kind, .int .i64 r6.1.V.N, .str r6.1.V.S.b, .sl false 4 r6.1.V.L.length (flat r6.1.V.L), .bool r6.1.Stream, .str r6.1.Data.b]), (12, .int .i64 k11)], [], ((s.set N1 (.cells [.sl false 6 r3.get_.Objects.length (flat r3.get_.Objects), .int .i64 r3.get_.Root])).set N2 (.cells [.int .i64 r3.root_, .int .i64 r3.count_, .fn 61 [] [.ref N1 0]]))⟩) ?_ ?_); (first | exact rfl | simp -implicitDefEqProofs only [go_sem, start, startE, resVs, resV, resC, allV, retK, Nat.reduceBEq, Nat.reduceAdd, Nat.reduceMul, Nat.reduceLeDiff, Nat.reduceEqDiff, Nat.reduceBNe, Nat.ble_eq, UInt8.reduceToNat, set_ne nN2N1, set_ne nN2N1.symm, set_comm nN2N1.symm]); rintro J k11)
    | ((with_reducible refine join_toS (fun (_ : Unit) => ⟨[(5, .ref N2 0), (6, .loc [.int .i64 r4.1.Page, .sl false 1 r4.1.Path.length (flat r4.1.Path), .int .i64 r4.1.Given.Kind, .int .i64 r4.1.Given.N, .str r4.1.Given.S.b, .sl false 4 r4.1.Given.L.length (flat r4.1.Given.L)])], [], ((s.set N1 (.cells [.sl false 6 r3.get_.Objects.length (flat r3.get_.Objects), .int .i64 r3.get_.Root])).set N2 (.cells [.int .i64 r3.root_, .int .i64 r3.count_, .fn 61 [] [.ref N1 0]]))⟩) (fun J => ?_) ?_); rotate_left; rintro _)
    | ((fail_if_success (have _x := sN1)); with_reducible intro hh N1 hN1; (try simp only [set_none] at hN1); have sN1 := hN1; revert hh)
    | (have _x := sN1; clear _x; (fail_if_success (have _x := sN2)); with_reducible intro hh N2 hN2; (try simp only [set_none] at hN2); obtain ⟨nN2N1, sN2⟩ := hN2; revert hh)
    | with_reducible exact fun hh => ⟨_, SubS.set (SubS.set (SubS.refl _) (by simp [Store.set, sN1])) (by simp [Store.set, sN2]), hh⟩
    | with_reducible exact fun hh => ⟨_, SubS.set (SubS.refl _) (by simp [Store.set, sN1]), hh⟩
    | with_reducible exact fun hh => ⟨_, SubS.refl _, hh⟩
    | simp -implicitDefEqProofs only [go_sem, start, startE, resVs, resV, resC, allV, retK, Nat.reduceBEq, Nat.reduceAdd, Nat.reduceMul, Nat.reduceLeDiff, Nat.reduceEqDiff, Nat.reduceBNe, Nat.ble_eq, UInt8.reduceToNat, set_ne nN2N1, set_ne nN2N1.symm, set_comm nN2N1.symm]
    | simp -implicitDefEqProofs only [go_sem, start, startE, resVs, resV, resC, allV, retK, Nat.reduceBEq, Nat.reduceAdd, Nat.reduceMul, Nat.reduceLeDiff, Nat.reduceEqDiff, Nat.reduceBNe, Nat.ble_eq, UInt8.reduceToNat]
    | simp -implicitDefEqProofs only [go_sem, start, startE, resVs, resV, resC, allV, retK, Nat.reduceBEq, Nat.reduceAdd, Nat.reduceMul, Nat.reduceLeDiff, Nat.reduceEqDiff, Nat.reduceBNe, Nat.ble_eq, UInt8.reduceToNat])
theorem law20_TreeWay_fe {d_0 p_1} {s : Store} {r : Bool}  (h : law20_TreeWay d_0 p_1 = some r) : FE Go.Proofs.Try.prog 6 [.agg [.sl false 6 d_0.Objects.length (flat d_0.Objects), .int .i64 d_0.Root], .int .i64 p_1] s [.bool r] s := law20_TreeWay_fn   ⟨r, h, rfl, rfl⟩
end Go.AB
end

section
namespace Go.AB
open Go

theorem cmpInt_self (x : Int) : cmp_Compareint x x = some 0 := by
  unfold cmp_Compareint cmp_isNaNint
  simp
theorem cmpBytes_self : ∀ l : List UInt8, Lib.compareBytes l l = 0
  | [] => rfl
  | a :: l => by
    unfold Lib.compareBytes
    rw [if_neg (UInt8.lt_irrefl a), if_neg (UInt8.lt_irrefl a)]
    exact cmpBytes_self l
theorem or3 : cmp_Orint [0, 0, 0] = some 0 := by
  unfold cmp_Orint
  rw [iter_cnt (o := .inl ()) 3 (by decide) (fun k hk => ?_) (if_not (by decide) rfl)]
  · rfl
  · rcases (by omega : k = 0 ∨ k = 1 ∨ k = 2) with rfl | rfl | rfl <;> rfl
theorem compare_self : ∀ (n : Nat) (v : api_Value) (fuel : Nat), W n v → 2 * n ≤ fuel → n ≤ 1000 → value_Compare fuel v v = some 0
  | 0, _, _, h, _, _ => h.elim
  | n + 1, v, 0, _, h, _ => by omega
  | n + 1, v, 1, _, h, _ => by omega
  | n + 1, v, fuel + 2, h, hf, hn => by
    have hl := h.1
    rw [value_Compare]
    refine bnd_of (cmpInt_self _) (bnd_of (cmpInt_self _) (bnd_of (a := 0) (by unfold strings_Compare cmpString; rw [bnd_some, cmpBytes_self]) (bnd_of or3 (if_not (by decide) (bnd_of (a := 0) ?_ rfl)))))
    rw [slices_CompareFuncapi_Value_api_Value_api_Value_api_Value]
    have hit : (iter (fun (t4 : Int) =>
          if decide (t4 < (v.L.length : Int)) then
            need (0 ≤ t4 ∧ t4 < v.L.length) <|
            if decide (t4 ≥ (v.L.length : Int)) then
              some (.inr (.inr (1 : Int)))
            else
              need (0 ≤ t4 ∧ t4 < v.L.length) <|
              bnd (value_Compare fuel (ix v.L t4) (ix v.L t4)) fun r8 =>
              if r8 != 0 then
                some (.inr (.inr r8))
              else
                some (.inl (w64 (t4 + 1)))
          else
            some (.inr (.inl ()))) 0 : Option (Unit ⊕ Int)) = some (.inl ()) := by
      refine iter_cnt v.L.length (by omega) (fun k hk => ?_) (if_not (by simp) rfl)
      refine if_of (by simp; omega) (need_of (by omega) (if_not (by simp; omega) (need_of (by omega) (bnd_of (compare_self n _ fuel (by rw [ix_nat hk]; exact h.2 _ (List.getElem_mem hk)) (by omega) (by omega)) rfl))))
    rw [hit]
    exact if_not (by simp) rfl
theorem same_self {n : Nat} {v : api_Value} (h : W n v) (hn : n ≤ 1000) : value_Same v v = some true := by
  unfold value_Same
  rw [compare_self n v bigN h (by have : 1000000 ≤ bigN := by decide
                                  omega) hn]
  rfl

theorem get_W {v : api_Value} {n : Nat} (hw : W (n + 2) v) (key : Str) : W (n + 1) (pget v key).1 := by
  unfold pget
  cases hg : value_Get v key with
  | none => exact ⟨Nat.zero_le _, fun x hx => by cases hx⟩
  | some r =>
    show W (n + 1) r.1
    unfold value_Get at hg
    cases hf : value_find v key with
    | none => rw [hf] at hg; cases hg
    | some i =>
      rw [hf, bnd_some] at hg
      split at hg
      · injection hg with hg; subst hg; exact ⟨Nat.zero_le _, fun x hx => by cases hx⟩
      · split at hg
        · injection hg with hg; subst hg; exact ⟨Nat.zero_le _, fun x hx => by cases hx⟩
        · unfold need at hg
          split at hg
          · rename_i hb
            injection hg with hg; subst hg
            show W (n + 1) (ix v.L _)
            rw [ix_at (by omega)]
            exact hw.2 _ (List.getElem_mem (l := v.L) (n := (w64 ((i : Int) + 1)).toNat) (by omega))
          · cases hg

/-- A way by Kids. -/
def ChainK (d : api_Doc) : List Int → Int → Prop
  | [], _ => False
  | [a], m => m ∈ kidsO (getO d a)
  | a :: b :: l, m => b ∈ kidsO (getO d a) ∧ ChainK d (b :: l) m
def giveAll (d : api_Doc) (g : Gv) (way : List Int) : Gv := way.foldl (fun g a => g.give (getO d a).V) g
theorem ix_mem {l : List Int} {p : Int} (h0 : 0 ≤ p) (h1 : p < (l.length : Int)) : ix l p ∈ l := by
  rw [ix_at (by omega)]; exact List.getElem_mem _
theorem pdown_ok {d : api_Doc} : ∀ (k : Nat) (n p : Int) (path : List Int) (g : Gv), 0 ≤ p → p < countO (getO d n) →
    ((pdown d k n p path g).2 ≠ 0 ∧ (pdown d k n p path g).1 = zeroL) ∨
    ∃ way m, (n :: way).length ≤ k ∧ ChainK d (n :: way) m ∧ pdown d k n p path g = (⟨m, path ++ (n :: way), ((giveAll d g (n :: way)).leave (getO d m).V).v⟩, 0)
  | 0, _, _, _, _, _, _ => .inl ⟨by simp [pdown], rfl⟩
  | k + 1, n, p, path, g, h0, h1 => by
    unfold pdown
    by_cases hc : countO (getO d n) = ((kidsO (getO d n)).length : Int)
    · rw [if_pos hc]
      by_cases hp : pTyped (getO d (ix (kidsO (getO d n)) p)) kPage = true
      · rw [if_pos hp]
        exact .inr ⟨[], _, by simp, ix_mem h0 (by omega), rfl⟩
      · rw [if_neg hp]
        by_cases hq : isNode (getO d (ix (kidsO (getO d n)) p)) = true ∧ countO (getO d (ix (kidsO (getO d n)) p)) = 1
        · rw [if_pos hq]
          rcases pdown_ok k (ix (kidsO (getO d n)) p) 0 (path ++ [n]) (g.give (getO d n).V) (Int.le_refl 0) (by rw [hq.2]; decide) with h | ⟨way, m, e1, e2, e3⟩
          · exact .inl h
          · refine .inr ⟨ix (kidsO (getO d n)) p :: way, m, by simp at e1 ⊢; omega, ⟨ix_mem h0 (by omega), e2⟩, ?_⟩
            rw [e3]
            simp [giveAll]
        · rw [if_neg hq]
          exact .inl ⟨by decide, rfl⟩
    · rw [if_neg hc]
      cases hpk : pick d (kidsO (getO d n)) p with
      | none => exact .inl ⟨by simp, rfl⟩
      | some mq =>
        obtain ⟨m0, q⟩ := mq
        obtain ⟨p1, p2, p3, p4⟩ := pick_some h0 hpk
        rcases pdown_ok k m0 q (path ++ [n]) (g.give (getO d n).V) p3 p4 with h | ⟨way, m, e1, e2, e3⟩
        · exact .inl h
        · refine .inr ⟨m0 :: way, m, by simp at e1 ⊢; omega, ⟨p1, e2⟩, ?_⟩
          show pdown d k m0 q (path ++ [n]) (g.give (getO d n).V) = _
          rw [e3]
          simp [giveAll]
/-- What the last on the way that has it has. -/
def lastOf (d : api_Doc) (key : Str) (o : Option api_Value) (way : List Int) : Option api_Value := way.foldl (fun o a => over o (pget (getO d a).V key)) o
theorem giveAll_c (d : api_Doc) : ∀ (way : List Int) (g : Gv), (giveAll d g way).c = lastOf d kC g.c way ∧ (giveAll d g way).m = lastOf d kM g.m way ∧ (giveAll d g way).r = lastOf d kR g.r way ∧ (giveAll d g way).t = lastOf d kT g.t way
  | [], _ => ⟨rfl, rfl, rfl, rfl⟩
  | a :: way, g => giveAll_c d way (g.give (getO d a).V)
theorem leave_L {F : Gv} {v : api_Value} {x : Str × api_Value} (h : x ∈ (F.leave v).L) : (pget v x.1).2 = false ∧ ((x.1 = kC ∧ F.c = some x.2) ∨ (x.1 = kM ∧ F.m = some x.2) ∨ (x.1 = kR ∧ F.r = some x.2) ∨ (x.1 = kT ∧ F.t = some x.2)) := by
  have one : ∀ {k : Str} {o : Option api_Value}, x ∈ opt1 k (lack o (pget v k)) → (pget v x.1).2 = false ∧ x.1 = k ∧ o = some x.2 := by
    intro k o hx
    unfold lack at hx
    split at hx
    · cases hx
    · rename_i hp
      cases o with
      | none => cases hx
      | some y =>
        have : x = (k, y) := by simpa [opt1] using hx
        subst this
        exact ⟨by simpa using hp, rfl, rfl⟩
  unfold Gv.L Gv.leave at h
  simp only [List.mem_append] at h
  rcases h with h | h | h | h
  · obtain ⟨a, b, c⟩ := one h; exact ⟨a, .inl ⟨b, c⟩⟩
  · obtain ⟨a, b, c⟩ := one h; exact ⟨a, .inr (.inl ⟨b, c⟩)⟩
  · obtain ⟨a, b, c⟩ := one h; exact ⟨a, .inr (.inr (.inl ⟨b, c⟩))⟩
  · obtain ⟨a, b, c⟩ := one h; exact ⟨a, .inr (.inr (.inr ⟨b, c⟩))⟩
theorem given_L {d : api_Doc} {way : List Int} {v : api_Value} {x : Str × api_Value} (h : x ∈ ((giveAll d ⟨none, none, none, none⟩ way).leave v).L) : (pget v x.1).2 = false ∧ lastOf d x.1 none way = some x.2 := by
  obtain ⟨h1, h2⟩ := leave_L h
  obtain ⟨c, m, r, t⟩ := giveAll_c d way ⟨none, none, none, none⟩
  refine ⟨h1, ?_⟩
  rcases h2 with ⟨e, h2⟩ | ⟨e, h2⟩ | ⟨e, h2⟩ | ⟨e, h2⟩ <;> rw [e]
  · rw [← c]; exact h2
  · rw [← m]; exact h2
  · rw [← r]; exact h2
  · rw [← t]; exact h2
def lastV (d : api_Doc) (key : Str) (l : api_Value) (way : List Int) : api_Value := way.foldl (fun l a => if (pget (getO d a).V key).2 then (pget (getO d a).V key).1 else l) l
theorem lastV_eq (d : api_Doc) (key : Str) : ∀ (way : List Int) (o : Option api_Value) (l x : api_Value), (∀ y, o = some y → l = y) → lastOf d key o way = some x → lastV d key l way = x
  | [], o, l, x, h, e => h x e
  | a :: way, o, l, x, h, e => by
    refine lastV_eq d key way (over o (pget (getO d a).V key)) _ x (fun y hy => ?_) e
    show (if (pget (getO d a).V key).2 then (pget (getO d a).V key).1 else l) = y
    unfold over at hy
    cases hp : (pget (getO d a).V key).2 with
    | true =>
      rw [hp] at hy
      simp only [if_true] at hy ⊢
      injection hy
    | false =>
      rw [hp] at hy
      simp only [Bool.false_eq_true, if_false] at hy ⊢
      exact h y hy
theorem lastV_W {d : api_Doc} (hd : FewD d) (key : Str) : ∀ (way : List Int) (l : api_Value), W 300 l → W 300 (lastV d key l way)
  | [], _, h => h
  | a :: way, l, h => by
    refine lastV_W hd key way _ ?_
    show W 300 (if (pget (getO d a).V key).2 then (pget (getO d a).V key).1 else l)
    split
    · exact W_mono 299 300 _ (by decide) (get_W (n := 298) (hd.get a) key)
    · exact h
theorem lastV_take (d : api_Doc) (key : Str) (l : api_Value) (way : List Int) (k : Nat) (h : k < way.length) : lastV d key l (way.take (k + 1)) = if (pget (getO d way[k]).V key).2 then (pget (getO d way[k]).V key).1 else lastV d key l (way.take k) := by
  unfold lastV
  rw [List.take_add_one, List.foldl_append]
  simp [h]
end Go.AB
end

section
namespace Go.AB
open Go

theorem any_take (l : List api_Value) (k : Nat) (h : k < l.length) (m : Int) : ((l.take (k + 1)).any fun x => x.N == m) = (((l.take k).any fun x => x.N == m) || ((ix l (k : Int)).N == m)) := by
  rw [List.take_add_one, List.any_append, ix_nat h]; simp [h]
theorem any_nums {l : List api_Value} {m : Int} (h : m ∈ nums l) : (l.any fun x => x.N == m) = true := by
  unfold nums at h
  obtain ⟨x, hx, rfl⟩ := List.mem_map.1 h
  exact List.any_eq_true.2 ⟨x, hx, by simp⟩
/-- Who comes next on a way. -/
def nextOf (way : List Int) (m : Int) (k : Nat) : Int := if k + 1 < way.length then way.getD (k + 1) 0 else m
theorem chain_next {d : api_Doc} : ∀ {way : List Int} {m : Int} (k : Nat) (h : k < way.length), ChainK d way m → nextOf way m k ∈ kidsO (getO d way[k])
  | [a], m, 0, _, h => h
  | [a], m, k + 1, hk, _ => by simp at hk
  | a :: b :: l, m, 0, _, h => h.1
  | a :: b :: l, m, k + 1, hk, h => by
    have := chain_next (way := b :: l) k (by simpa using hk) h.2
    have e : nextOf (a :: b :: l) m (k + 1) = nextOf (b :: l) m k := by
      unfold nextOf
      simp only [List.length_cons, List.getD_cons_succ]
      by_cases hc : k + 1 < l.length + 1
      · rw [if_pos hc, if_pos (by omega)]
      · rw [if_neg hc, if_neg (by omega)]
    rw [e]; exact this
theorem kids_loop (l : List api_Value) (m : Int) (h : l.length ≤ 299) : iter (fun ((is26, j27) : Bool × Int) =>
                  if decide (j27 < (l.length : Int)) then
                    need ((!is26) = true → 0 ≤ j27 ∧ j27 < l.length) <|
                    some (.inl (is26 || (((ix l j27).N) == m), w64 (j27 + 1)))
                  else
                    some (.inr is26)) (false, 0) = some (l.any fun x => x.N == m) := by
  refine iter_acc l.length (fun j => (l.take j).any fun x => x.N == m) rfl (by omega) (fun j hj => ?_) ?_
  · refine if_of (by simp; omega) (need_of (fun _ => by omega) ?_)
    rw [any_take _ j hj]
  · refine if_not (by simp) ?_
    rw [List.take_length]
theorem leads_eq (f : file_File) (h : FewD f.get_) (l : tree_Leaf) (hl : 0 < l.Path.length) (hl2 : l.Path.length ≤ 1000) (h0 : ix l.Path 0 = topN f) (hc : ChainK f.get_ l.Path l.Page) : law20_leads f l = some true := by
  have hs := h.small f.root_
  unfold law20_leads file_File_Root file_File_is
  simp only [bnd_some]
  rw [show (!(true || false)) = false from rfl]
  simp only [Bool.false_eq_true, if_false, bnd_some]
  refine bnd_of (Get_eq f _ h) (bnd_of (get_eq hs kPages) (need_of ⟨by decide, by omega⟩ (if_not (by rw [h0]; simp [topN]) ?_)))
  refine jnS_of (z := .inl ()) (bndS_of (z := .inl ()) (iter_cnt l.Path.length (by omega) (fun k hk => ?_) (if_not (by simp) rfl)) rfl) rfl
  refine if_of (by simp; omega) (jnS_of (z := .inl ()) (jn_of (a := nextOf l.Path l.Page k) ?_ (need_of (by omega) (bnd_of (Get_eq f _ h) (bnd_of (get_eq (h.small _) kKids) (jn_of (a := true) ?_ (if_not (by decide) rfl)))))) rfl)
  · rw [w64_id (by omega) (by omega)]
    unfold nextOf
    by_cases hk1 : k + 1 < l.Path.length
    · rw [if_pos hk1]
      refine if_of (by simp; omega) (need_of (by omega) ?_)
      rw [show ((k : Int) + 1) = ((k + 1 : Nat) : Int) by omega, ix_nat hk1, List.getD_eq_getElem?_getD, List.getElem?_eq_getElem hk1]; rfl
    · rw [if_neg hk1]
      exact if_not (by simp; omega) rfl
  · have hx : ix l.Path (k : Int) = l.Path[k] := ix_nat hk
    rw [hx]
    have hL := kidsO_le (h.get l.Path[k])
    rw [kidsO_len] at hL
    have hL' : (pget (getO f.get_ l.Path[k]).V kKids).1.L.length ≤ 299 := hL
    have hm := any_nums (chain_next k hk hc)
    exact (kids_loop _ _ hL').trans (congrArg some hm)

theorem last_loop (f : file_File) (h : FewD f.get_) (key : Str) (way : List Int) (hw : way.length ≤ 1000) : iter (fun ((last28, j29) : api_Value × Int) =>
                        if decide (j29 < (way.length : Int)) then
                          jn (
                            need (0 ≤ j29 ∧ j29 < way.length) <|
                            bnd (file_File_Get f (ix way j29)) fun r42 =>
                            bnd (value_Get r42.1.V key) fun r43 =>
                            if r43.2 then
                              some r43.1
                            else
                              some last28) fun (last39 : api_Value) =>
                          some (.inl (last39, w64 (j29 + 1)))
                        else
                          some (.inr last28)) ((api_Value.mk 0 0 (Str.mk []) ([] : List api_Value)), 0) = some (lastV f.get_ key zeroV way) := by
  refine iter_acc (o := lastV f.get_ key zeroV way) way.length (fun j => lastV f.get_ key zeroV (way.take j)) rfl (by omega) (fun j hj => ?_) ?_
  · have hxj : ix way (j : Int) = way[j] := ix_nat hj
    refine if_of (by simp; omega) (jn_of (a := lastV f.get_ key zeroV (way.take (j + 1))) (need_of (by omega) ?_) rfl)
    rw [hxj, lastV_take _ _ _ _ j hj]
    refine bnd_of (Get_eq f _ h) (bnd_of (get_eq (h.small _) _) ?_)
    split <;> rfl
  · refine if_not (by simp) ?_
    rw [List.take_length]
def wayBody (f : file_File) (o : api_Object) (L : List api_Value) (way : List Int) : Int → Option (Int ⊕ (Unit ⊕ Bool)) := fun k11 =>
              if decide (w64 (k11 + 1) < (L.length : Int)) then
                jnS (
                  need (0 ≤ k11 ∧ k11 < L.length) <|
                  bnd (value_Get o.V ((ix L k11).S)) fun r22 =>
                  if r22.2 then
                    some (.inr false)
                  else
                    jn (
                      iter (fun ((last28, j29) : api_Value × Int) =>
                        if decide (j29 < (way.length : Int)) then
                          jn (
                            need (0 ≤ j29 ∧ j29 < way.length) <|
                            bnd (file_File_Get f (ix way j29)) fun r42 =>
                            bnd (value_Get r42.1.V ((ix L k11).S)) fun r43 =>
                            if r43.2 then
                              some r43.1
                            else
                              some last28) fun (last39 : api_Value) =>
                          some (.inl (last39, w64 (j29 + 1)))
                        else
                          some (.inr last28)) ((api_Value.mk 0 0 (Str.mk []) ([] : List api_Value)), 0)) fun (last26 : api_Value) =>
                    need (0 ≤ w64 (k11 + 1) ∧ w64 (k11 + 1) < L.length) <|
                    bnd (value_Same last26 (ix L (w64 (k11 + 1)))) fun r44 =>
                    if !r44 then
                      some (.inr false)
                    else
                      some (.inl ())) (fun (_ : Unit) =>
                  some (.inl (w64 (k11 + 2))))
                (fun (t20 : Bool) => some (.inr (.inr t20)))
              else
                some (.inr (.inl ()))
theorem way_loop (f : file_File) (h : FewD f.get_) (o : api_Object) (ho : Small o.V) (G : List (Str × api_Value)) (hG : G.length ≤ 4) (way : List Int) (hw : way.length ≤ 1000) (hGL : ∀ x ∈ G, (pget o.V x.1).2 = false ∧ lastOf f.get_ x.1 none way = some x.2) :
    iter (wayBody f o (encP G) way) 0 = some (.inl ()) := by
  have hlen : (encP G).length = 2 * G.length := encP_len G
  refine iter_upto G.length (fun k => ((2 * k : Nat) : Int)) rfl (by omega) (fun k hk => ?_) ?_
  · have hkey : ix (encP G) ((2 * k : Nat) : Int) = ⟨5, 0, (G[k]).1, []⟩ := ix_key hk
    have hw1 : w64 (((2 * k : Nat) : Int) + 1) = ((2 * k + 1 : Nat) : Int) := by rw [w64_id (by omega) (by omega)]; omega
    have hval : ix (encP G) ((2 * k + 1 : Nat) : Int) = (G[k]).2 := ix_val hk
    obtain ⟨hno, hlast⟩ := hGL _ (List.getElem_mem hk)
    have hx : lastV f.get_ (G[k]).1 zeroV way = (G[k]).2 := lastV_eq f.get_ _ way none zeroV _ (fun y hy => by cases hy) hlast
    have hW : W 300 (G[k]).2 := by
      rw [← hx]; exact lastV_W h _ way _ ⟨Nat.zero_le _, fun x hx => by cases hx⟩
    have hw2 : w64 (((2 * k : Nat) : Int) + 2) = ((2 * (k + 1) : Nat) : Int) := by rw [w64_id (by omega) (by omega)]; omega
    unfold wayBody
    rw [hw1, hkey, hval, hw2]
    refine if_of (by rw [hlen]; simp; omega) (jnS_of (z := .inl ()) (need_of (by rw [hlen]; omega) (bnd_of (get_eq ho _) (if_not (by rw [hno]; decide) (jn_of (last_loop f h _ way hw) (need_of (by rw [hlen]; omega) ?_))))) rfl)
    rw [hx]
    exact bnd_of (same_self hW (by decide)) rfl
  · unfold wayBody
    refine if_not (by rw [w64_id (by omega) (by omega), hlen]; simp; omega) rfl

theorem TreeWay_ok (d : api_Doc) (p : Int) (hd : FewD d) (hw : law20_works = some true) (hf : ref19_Few d.Objects 80 = some true) : law20_TreeWay d p = some true := by
  unfold law20_TreeWay
  refine bnd_of hf (if_not (by decide) (bnd_of (a := ⟨d.Root, d.Objects.length, d⟩) rfl ?_))
  generalize hfe : (⟨d.Root, d.Objects.length, d⟩ : file_File) = f
  have hg : f.get_ = d := by rw [← hfe]
  have hd' : FewD f.get_ := by rw [hg]; exact hd
  refine bnd_of (find_eq f p hd') ?_
  have hcase : ((pFind f p).2 ≠ 0 ∧ (pFind f p).1 = zeroL) ∨ ∃ way m, (topN f :: way).length ≤ 64 ∧ ChainK f.get_ (topN f :: way) m ∧ pFind f p = (⟨m, topN f :: way, ((giveAll f.get_ ⟨none, none, none, none⟩ (topN f :: way)).leave (getO f.get_ m).V).v⟩, 0) := by
    unfold pFind
    split
    · split
      · split
        · rename_i hp
          exact pdown_ok 64 (topN f) p [] ⟨none, none, none, none⟩ hp.1 hp.2
        · exact .inl ⟨by decide, rfl⟩
      · exact .inl ⟨by decide, rfl⟩
    · exact .inl ⟨by decide, rfl⟩
  generalize hr : pFind f p = r at *
  obtain ⟨l, e⟩ := r
  rcases hcase with ⟨he, hz⟩ | ⟨way0, m, hlen, hch, he⟩
  · have he' : e ≠ 0 := he
    have hz' : l = zeroL := hz
    subst hz'
    refine if_of (by simpa using he') (bnd_of (a := true) ?_ rfl)
    rw [hw]; rfl
  · injection he with he1 he2
    subst he2
    have hpath : l.Path = topN f :: way0 := by rw [he1]
    have hpage : l.Page = m := by rw [he1]
    have hgiven : l.Given.L = encP ((giveAll f.get_ ⟨none, none, none, none⟩ l.Path).leave (getO f.get_ l.Page).V).L := by rw [hpath, hpage, he1]; rfl
    rw [← hpath] at hlen hch
    rw [← hpage] at hch
    have hpos : 0 < l.Path.length := by rw [hpath]; simp
    have htop : ix l.Path 0 = topN f := by rw [hpath]; rfl
    clear he1 hpath hpage hr
    refine if_not (by simp) ?_
    refine if_not (by simp; refine ⟨fun e => by rw [e] at hpos; simp at hpos, by omega⟩) (bnd_of (Get_eq f l.Page hd') ?_)
    have hl := way_loop f hd' (getO f.get_ l.Page) (hd'.small _) _ (Gv.len _) l.Path (by omega) (fun x hx => given_L (d := f.get_) (way := l.Path) (v := (getO f.get_ l.Page).V) hx)
    rw [← hgiven] at hl
    refine jnS_of (z := .inl ()) (bndS_of hl rfl) ?_
    refine bnd_of (leads_eq f hd' l hpos (by omega) htop hch) (bnd_of (a := true) ?_ rfl)
    rw [hw]; rfl

theorem law20_TreeWay_true (d : api_Doc) (p : Int) : law20_TreeWay d p = some true := by
  obtain ⟨b, h1, h2⟩ := few_all d.Objects 80 (by decide)
  cases b with
  | true =>
    obtain ⟨h3, h4⟩ := h2 rfl
    exact TreeWay_ok d p ⟨by omega, h4⟩ law20_works_true h1
  | false =>
    unfold law20_TreeWay
    exact bnd_of h1 (if_of rfl (bnd_of law20_works_true rfl))
end Go.AB
end

section
namespace Go.AB
open Go Go.RowKit Go.ChangeShapes Go.WideShapes

/-- At a law's start: so many first cells of each block never change. -/
def bigR (N : Nat) (w : World) (b : Nat) : Nat := if b < w.heap.size then N else 0

theorem law_calls' {P : Program} {w : World} {f : FuncId} {args : List AV} {vs : Array Value} (N : Nat) (hf : FN P f args noStore fun rs _ => rs = [.bool true]) (ha : ArgsR w (bigR N w) args vs) :
    Calls P f vs w fun e w' => e = .returned (.bool true) ∧ Below w.heap.size w w' := by
  refine (hf ⟨bigR N w, fun _ => .none⟩ w vs ⟨fun _ _ => rfl, fun b hb => ?_⟩ (fun b => .inl rfl) (fun b o h => by cases h) ha).mono fun e w' ⟨v, rs, s', G', he, hq, _, _, hr, hp⟩ => ?_
  · show bigR N w b = 0
    unfold bigR
    rw [if_neg (by omega)]
  · subst hq
    refine ⟨?_, ⟨hp.os, hp.tape, hp.output, hp.size, fun b hb => hp.frame b hb (.inr rfl)⟩⟩
    rw [he]
    have := VR.inv_bool hr.1
    rw [this]

def VRs (w : World) (R : Nat → Nat) (as1 : List AV) (cs : List Value) : Prop := cs.length = as1.length ∧ ∀ (j : Nat) (a : AV) (v : Value), as1[j]? = some a → cs[j]? = some v → VR w R a v

theorem VRs.one {w : World} {R : Nat → Nat} {a : AV} {v : Value} (h : VR w R a v) : VRs w R [a] [v] := by
  refine ⟨rfl, fun j a' v' h1 h2 => ?_⟩
  cases j with
  | zero => cases h1; cases h2; exact h
  | succ j => simp at h1
theorem VRs.append {w : World} {R : Nat → Nat} {as1 bs : List AV} {cs ds : List Value} (h : VRs w R as1 cs) (k : VRs w R bs ds) : VRs w R (as1 ++ bs) (cs ++ ds) := by
  refine ⟨by rw [List.length_append, List.length_append, h.1, k.1], fun j a v h1 h2 => ?_⟩
  rcases Nat.lt_or_ge j as1.length with hj | hj
  · rw [List.getElem?_append_left hj] at h1
    rw [List.getElem?_append_left (by rw [h.1]; exact hj)] at h2
    exact h.2 j a v h1 h2
  · rw [List.getElem?_append_right hj] at h1
    rw [List.getElem?_append_right (by rw [h.1]; exact hj), h.1] at h2
    exact k.2 _ a v h1 h2

/-- What cells of a Go type read as: values of a Lean type. -/
def OpensC (P : Program) (t : TypeId) {α : Type} (n : Nat) (C : α → List AV) (wf : α → Prop) : Prop :=
  ∀ (H : Type) (enc : TypeId × Value → H) (w : World) (fuel : Nat) (cs : List Value) (x : DataW H × List MemPlace), DataW.trod enc P w 0 (fun _ => true) true fuel t cs = some x →
    cs.length = n ∧ ∃ a : α, wf a ∧ Fl (C a) ∧ ∃ N0, ∀ N, N0 ≤ N → VRs w (bigR N w) (C a) cs
def Opens (P : Program) (t : TypeId) (α : Type) [Enc α] (wf : α → Prop) : Prop := OpensC P t (Enc.w α) (Enc.cells : α → List AV) wf

section
variable {P : Program} {t : TypeId}
theorem fl_one {a : AV} (h : flatV a = true) : Fl [a] := by
  intro c hc
  rw [List.mem_singleton] at hc; rw [hc]; exact h

theorem opens_bool (ht : P.underlying t = some .bool) : Opens P t Bool fun _ => True := by
  intro H enc w fuel cs x h
  obtain ⟨b, rfl, _⟩ := DataW.trod_bool ht h
  exact ⟨rfl, b, trivial, fl_one rfl, 0, fun N _ => VRs.one (.bool b)⟩
theorem opens_int (ht : P.underlying t = some (.int .i64)) : Opens P t Int fun n => -9223372036854775808 ≤ n ∧ n ≤ 9223372036854775807 := by
  intro H enc w fuel cs x h
  obtain ⟨n, rfl, _, hw⟩ := DataW.trod_int ht h
  refine ⟨rfl, n, ?_, fl_one rfl, 0, fun N _ => VRs.one (.int _ n)⟩
  simpa [Lit.wf, IntKind.min, IntKind.max, IntKind.signed, IntKind.bits] using hw
theorem opens_u8 (ht : P.underlying t = some (.int .u8)) : Opens P t UInt8 fun _ => True := by
  intro H enc w fuel cs x h
  obtain ⟨n, rfl, _, hw⟩ := DataW.trod_int ht h
  have hb : 0 ≤ n ∧ n ≤ 255 := by simpa [Lit.wf, IntKind.min, IntKind.max, IntKind.signed, IntKind.bits] using hw
  refine ⟨rfl, UInt8.ofNat n.toNat, trivial, fl_one rfl, 0, fun N _ => ?_⟩
  have e : ((UInt8.ofNat n.toNat).toNat : Int) = n := by
    rw [UInt8.toNat_ofNat']; omega
  show VRs _ _ [.int .u8 ((UInt8.ofNat n.toNat).toNat : Int)] _
  rw [e]
  exact VRs.one (.int _ n)
theorem opens_u32 (ht : P.underlying t = some (.int .u32)) : Opens P t UInt32 fun _ => True := by
  intro H enc w fuel cs x h
  obtain ⟨n, rfl, _, hw⟩ := DataW.trod_int ht h
  have hb : 0 ≤ n ∧ n ≤ 4294967295 := by simpa [Lit.wf, IntKind.min, IntKind.max, IntKind.signed, IntKind.bits] using hw
  refine ⟨rfl, UInt32.ofNat n.toNat, trivial, fl_one rfl, 0, fun N _ => ?_⟩
  have e : ((UInt32.ofNat n.toNat).toNat : Int) = n := by
    rw [UInt32.toNat_ofNat']; omega
  show VRs _ _ [.int .u32 ((UInt32.ofNat n.toNat).toNat : Int)] _
  rw [e]
  exact VRs.one (.int _ n)
theorem opens_u64 (ht : P.underlying t = some (.int .u64)) : Opens P t UInt64 fun _ => True := by
  intro H enc w fuel cs x h
  obtain ⟨n, rfl, _, hw⟩ := DataW.trod_int ht h
  have hb : 0 ≤ n ∧ n ≤ 18446744073709551615 := by simpa [Lit.wf, IntKind.min, IntKind.max, IntKind.signed, IntKind.bits] using hw
  refine ⟨rfl, UInt64.ofNat n.toNat, trivial, fl_one rfl, 0, fun N _ => ?_⟩
  have e : ((UInt64.ofNat n.toNat).toNat : Int) = n := by
    rw [UInt64.toNat_ofNat']; omega
  show VRs _ _ [.int .u64 ((UInt64.ofNat n.toNat).toNat : Int)] _
  rw [e]
  exact VRs.one (.int _ n)
theorem opens_str (ht : P.underlying t = some .string) : Opens P t Str fun s => s.b.length ≤ maxLen := by
  intro H enc w fuel cs x h
  obtain ⟨s, rfl, _, hs⟩ := DataW.trod_string ht h
  refine ⟨rfl, ⟨s.data.toList⟩, by simpa using hs, fl_one rfl, 0, fun N _ => ?_⟩
  have := VR.str (w := w) (R := bigR N w) s.data.toList
  exact VRs.one this

theorem choose_list {α : Type} {Q : Nat → α → Prop} : ∀ n : Nat, (∀ i, i < n → ∃ a, Q i a) → ∃ l : List α, l.length = n ∧ ∀ (i : Nat) (a : α), l[i]? = some a → Q i a
  | 0, _ => ⟨[], rfl, fun i a h => by simp at h⟩
  | n + 1, h => by
    obtain ⟨l, h1, h2⟩ := choose_list n fun i hi => h i (by omega)
    obtain ⟨a, ha⟩ := h n (by omega)
    refine ⟨l ++ [a], by simp [h1], fun i x hx => ?_⟩
    rcases Nat.lt_or_ge i n with hi | hi
    · rw [List.getElem?_append_left (by omega)] at hx; exact h2 i x hx
    · rw [List.getElem?_append_right (by omega)] at hx
      have : i = n := by
        have := (List.getElem?_eq_some_iff.1 hx).1
        simp at this; omega
      subst this
      rw [h1, Nat.sub_self] at hx
      injection hx with hx; rw [← hx]; exact ha
theorem common {Q : Nat → Nat → Prop} : ∀ n : Nat, (∀ i, i < n → ∃ N0, ∀ N, N0 ≤ N → Q i N) → ∃ N0, ∀ N, N0 ≤ N → ∀ i, i < n → Q i N
  | 0, _ => ⟨0, fun _ _ i h => absurd h (Nat.not_lt_zero i)⟩
  | n + 1, h => by
    obtain ⟨a, ha⟩ := common n fun i hi => h i (by omega)
    obtain ⟨b, hb⟩ := h n (by omega)
    refine ⟨max a b, fun N hN i hi => ?_⟩
    rcases Nat.lt_or_ge i n with h1 | h1
    · exact ha N (by omega) i h1
    · have : i = n := by omega
      rw [this]; exact hb N (by omega)

theorem flat_get {α : Type} [Enc α] (l : List α) {i r : Nat} {a : α} (hi : l[i]? = some a) (hr : r < Enc.w α) : (flat l)[i * Enc.w α + r]? = (Enc.cells a)[r]? := by
  have h1 := flat_sub l (Enc.w α) i 1 rfl
  obtain ⟨hlt, he⟩ := List.getElem?_eq_some_iff.1 hi
  have h2 : (l.drop i).take 1 = [a] := by rw [List.drop_eq_getElem_cons hlt, he]; rfl
  rw [h2, flat_cons, flat_nil, List.append_nil, Nat.one_mul] at h1
  rw [← h1]
  unfold AB.sub
  rw [List.getElem?_take, if_pos hr, List.getElem?_drop]

/-- A slice of them, as an argument. -/
theorem open_slice {H : Type} {enc : TypeId × Value → H} {w : World} {e : TypeId} {α : Type} [Enc α] {wf : α → Prop} {b0 : Nat} {v : Value} {d : DataW H} {ps : List MemPlace}
    (ht : P.underlying t = some (.slice e)) (hc : P.cellsOf e = Enc.w α) (he : Opens P e α wf) (hval : Value.okWide P w .any b0 t v) (h : DataW.Trod enc P w 0 (fun _ => true) true t v d ps) :
    ∃ l : List α, l.length ≤ maxLen ∧ (∀ a ∈ l, wf a) ∧ ∃ N0, ∀ N, N0 ≤ N → VR w (bigR N w) (.sl false (Enc.w α) l.length (flat l)) v := by
  have hv : v = .slice none 0 0 ∨ ∃ a len cap, v = .slice (some a) len cap ∧ w.has P .any b0 a e cap := by
    unfold Value.okWide Cell.okWide Cell.ok at hval
    rw [ht] at hval
    dsimp only at hval
    split at hval <;> simp_all
    exact ⟨_, _, _, ⟨rfl, rfl, rfl⟩, hval.2.2⟩
  obtain ⟨fuel, hf⟩ := h
  rcases hv with rfl | ⟨a, len, cap, rfl, hhas⟩
  · exact ⟨[], Nat.zero_le _, (fun _ h => absurd h List.not_mem_nil), 0, fun N _ => .slnil _ _⟩
  · obtain ⟨_, hsp, row, cells, hsh, _⟩ := hhas
    obtain ⟨b, off, spot⟩ := a
    simp only at hsp hsh
    subst hsp
    have hb : b < w.heap.size := by
      rcases Nat.lt_or_ge b w.heap.size with h | h
      · exact h
      · unfold World.shape? at hsh
        rw [Array.getElem?_eq_none h] at hsh
        cases hsh
    rcases DataW.trod_slice ht hf with ⟨h0, _⟩ | ⟨a, len', cap', elems, rest, n, _, hcs, _, _, hl, hm, hlen, hel, _⟩
    · simp [Value.cells] at h0
    · have hcs' : (a = ⟨b, off, none⟩ ∧ len' = len) ∧ cap' = cap := by
        simp [Value.cells] at hcs
        exact ⟨⟨hcs.1.symm, hcs.2.1.symm⟩, hcs.2.2.symm⟩
      obtain ⟨⟨rfl, rfl⟩, rfl⟩ := hcs'
      have each : ∀ i, i < len' → ∃ x : α × List Value, wf x.1 ∧ Fl (Enc.cells x.1) ∧ w.cells? 0 ((⟨b, off, none⟩ : Addr).add (i * Enc.w α)) (Enc.w α) = some x.2 ∧ ∃ N0, ∀ N, N0 ≤ N → VRs w (bigR N w) (Enc.cells x.1) x.2 := by
        intro i hi
        have h1 := hel i hi
        rw [hc, List.getElem?_eq_getElem (by omega), Option.bind_eq_some_iff] at h1
        obtain ⟨cs, h2, h3⟩ := h1
        obtain ⟨_, x, h4, h5, h6⟩ := he H enc w n cs _ h3
        exact ⟨(x, cs), h4, h5, h2, h6⟩
      obtain ⟨L, hL, hQ⟩ := choose_list len' each
      have hx : ∀ i, i < len' → ∃ x, L[i]? = some x := fun i hi => ⟨L[i]'(by omega), List.getElem?_eq_getElem (by omega)⟩
      obtain ⟨N0, hN0⟩ := common (Q := fun i N => ∀ x, L[i]? = some x → VRs w (bigR N w) (Enc.cells x.1) x.2) len' fun i hi => by
        obtain ⟨x, hx⟩ := hx i hi
        obtain ⟨_, _, _, N0, h⟩ := hQ i x hx
        exact ⟨N0, fun N hN y hy => by rw [hx] at hy; cases hy; exact h N hN⟩
      have hwf : ∀ a ∈ L.map (·.1), wf a ∧ Fl (Enc.cells a) := by
        intro a ha
        obtain ⟨x, hx, rfl⟩ := List.mem_map.1 ha
        obtain ⟨i, hi⟩ := List.getElem?_of_mem hx
        have := hQ i x hi
        exact ⟨this.1, this.2.1⟩
      have hget : ∀ (j : Nat) (c : AV), (flat (L.map (·.1)))[j]? = some c → ∃ v, w.cell? ⟨b, off + j, none⟩ = some v ∧ ∀ N, N0 ≤ N → VR w (bigR N w) c v := by
        intro j c hj
        have hw : 0 < Enc.w α := Enc.pos
        have hjl := (List.getElem?_eq_some_iff.1 hj).1
        rw [flat_len, List.length_map, hL] at hjl
        have hi : j / Enc.w α < len' := Nat.div_lt_of_lt_mul (by rw [Nat.mul_comm]; exact hjl)
        have hr : j % Enc.w α < Enc.w α := Nat.mod_lt _ hw
        have hje : j = j / Enc.w α * Enc.w α + j % Enc.w α := by rw [Nat.mul_comm]; exact (Nat.div_add_mod _ _).symm
        obtain ⟨x, hx⟩ := hx _ hi
        have h1 := flat_get (L.map (·.1)) (i := j / Enc.w α) (a := x.1) (by rw [List.getElem?_map, hx]; rfl) hr
        rw [← hje, hj] at h1
        obtain ⟨_, _, h2, _⟩ := hQ _ x hx
        obtain ⟨_, h3, h4⟩ := World.cells?_some h2
        have h5 := h4 _ hr
        rw [add_plain, add_plain, Nat.add_assoc, ← hje] at h5
        refine ⟨x.2[j % Enc.w α]'(by omega), by rw [h5, List.getElem?_eq_getElem], fun N hN => ?_⟩
        exact (hN0 N hN _ hi x hx).2 _ _ _ h1.symm (List.getElem?_eq_getElem _)
      refine ⟨L.map (·.1), by rw [List.length_map, hL]; omega, fun a ha => (hwf a ha).1, max N0 (off + len' * Enc.w α), fun N hN => ?_⟩
      rw [List.length_map, hL]
      refine .sl false (Enc.w α) len' _ b off cap' (fun j => (w.cell? ⟨b, off + j, none⟩).getD default) ?_ ?_ ?_ hl ?_ ?_
      · intro c hcm
        unfold flat at hcm
        obtain ⟨l, hl, hcl⟩ := List.mem_flatten.1 hcm
        obtain ⟨a, ha, rfl⟩ := List.mem_map.1 hl
        exact (hwf a ha).2 c hcl
      · rw [flat_len, List.length_map, hL]
      · rw [flat_len, List.length_map, hL]
        unfold bigR
        rw [if_pos hb]; omega
      · intro j c hj
        obtain ⟨v, h1, _⟩ := hget j c hj
        rw [h1]; rfl
      · intro j c hj
        obtain ⟨v, h1, h2⟩ := hget j c hj
        simp only [h1, Option.getD_some]; exact h2 N (by omega)
end
end Go.AB
end

section
namespace Go.AB
open Go Go.RowKit Go.ChangeShapes Go.WideShapes

section
variable {P : Program}

theorem trodAll_below {H : Type} {enc : TypeId × Value → H} (hl : laidOutB P = true) {W W' : World} (hb : Below W.heap.size W W') :
    ∀ {ts : List TypeId} {vs : List Value} {ds : List (DataW H)} {ps : List MemPlace}, (∀ t ∈ ts, P.readableRec t = true ∧ t < P.types.size) → DataW.TrodAll enc P W 0 (fun _ => true) true ts vs ds ps →
      DataW.TrodAll enc P W' 0 (fun b => decide (b < W.heap.size)) true ts vs ds ps
  | [], [], [], _, _, h => h
  | t :: ts, v :: vs, d :: ds, _, hr, h => by
    have hlt := h.lt
    obtain ⟨p, q, h1, h2, rfl⟩ := h
    have ht := hr t List.mem_cons_self
    exact ⟨p, q, Below.trod hl ht.1 ht.2 h1 hb fun x hx => hlt x (List.mem_append_left _ hx), trodAll_below hl hb (fun t ht => hr t (List.mem_cons_of_mem _ ht)) h2, rfl⟩
  | [], _ :: _, _, _, _, h => h.elim
  | [], [], _ :: _, _, _, h => h.elim
  | _ :: _, [], _, _, _, h => h.elim
  | _ :: _, _ :: _, [], _, _, h => h.elim

/-- What a law's row asks, once its call returns true and turns nothing that was there. -/
theorem law_post {H : Type} {enc : TypeId × Value → H} {fn : Func} {s : ChangeSpec} {f : FuncId} {W : World} {args : Array Value} {ds gs : List (DataW H)} {before : List MemPlace} {tb : TypeId}
    (hvars : s.vars = []) (hres : fn.resultTypes = #[tb]) (htb : P.underlying tb = some .bool) (hl : laidOutB P = true) (hr : ∀ t ∈ fn.params.toList, P.readableRec t = true ∧ t < P.types.size)
    (hspec : ∀ ds : List (DataW H), ds.length = fn.params.toList.length → s.fn H ds = { results := [.lit (.bool true)], args := ds })
    (hW : DataW.Whole enc P fn.params.toList s.vars false W args.toList ds gs before)
    (hc : Calls P f args W fun e w' => e = .returned (.bool true) ∧ Below W.heap.size W w') :
    Calls P f args W fun e W' => ∃ v, e = .returned v ∧ s.post enc P fn false true false false W args v W' := by
  refine hc.mono fun e W' ⟨he, hb⟩ => ⟨.bool true, he, ?_⟩
  have hW' := hW
  obtain ⟨p, q, hA, hV, rfl, hfz, hnd⟩ := hW
  rw [hvars] at hV
  obtain ⟨rfl, rfl⟩ := trodVars_none hV
  have hs := hspec ds (trodAll_length hA).2
  refine ⟨ds, [], _, [], p, [], hW', ?_, ?_, ?_, ?_, fun h => by cases h⟩
  · rw [List.append_nil, hs, hres]
    exact trodAll_mk1 (shut_bool htb true)
  · rw [List.append_nil, hs]
    exact trodAll_below hl hb hr hA
  · rw [List.append_nil, hs, hvars]
    exact rfl
  · exact World.keptBut_mono (fun p hp => hp.elim) (hb.frame fun _ => False)

/-! Products. -/
def OpensF (P : Program) (fs : List (TypeId × Nat)) (o : Nat) {α : Type} (n : Nat) (C : α → List AV) (wf : α → Prop) : Prop :=
  ∀ (H : Type) (enc : TypeId × Value → H) (w : World) (fuel : Nat) (cs : List Value), (∀ f ∈ fs, ∃ x, DataW.trod enc P w 0 (fun _ => true) true fuel f.1 ((cs.drop f.2).take (P.cellsOf f.1)) = some x) →
    ∃ a : α, wf a ∧ Fl (C a) ∧ ∃ N0, ∀ N, N0 ≤ N → VRs w (bigR N w) (C a) ((cs.drop o).take n)

theorem opensF_nil {o : Nat} : OpensF P [] o 0 (fun _ : Unit => []) fun _ => True :=
  fun _ _ _ _ _ _ => ⟨(), trivial, (fun _ h => absurd h List.not_mem_nil), 0, fun _ _ => ⟨by simp, fun j a v h => by simp at h⟩⟩
theorem opensF_cons {t : TypeId} {o n1 n2 : Nat} {fs : List (TypeId × Nat)} {α β : Type} {C1 : α → List AV} {C2 : β → List AV} {wf1 : α → Prop} {wf2 : β → Prop}
    (h1 : OpensC P t n1 C1 wf1) (hc : P.cellsOf t = n1) (h2 : OpensF P fs (o + n1) n2 C2 wf2) : OpensF P ((t, o) :: fs) o (n1 + n2) (fun p : α × β => C1 p.1 ++ C2 p.2) fun p => wf1 p.1 ∧ wf2 p.2 := by
  intro H enc w fuel cs h
  obtain ⟨x, hx⟩ := h _ List.mem_cons_self
  obtain ⟨_, a, ha, hfa, N1, hN1⟩ := h1 H enc w fuel _ x hx
  obtain ⟨b, hb, hfb, N2, hN2⟩ := h2 H enc w fuel cs fun f hf => h f (List.mem_cons_of_mem _ hf)
  refine ⟨(a, b), ⟨ha, hb⟩, fun c hc => (List.mem_append.1 hc).elim (hfa c) (hfb c), max N1 N2, fun N hN => ?_⟩
  rw [List.take_add, List.drop_drop]
  refine VRs.append ?_ (hN2 N (by omega))
  rw [← hc]
  exact hN1 N (by omega)
theorem OpensC.map {t : TypeId} {n : Nat} {α β : Type} {C : α → List AV} {wf : α → Prop} (h : OpensC P t n C wf) {C' : β → List AV} {wf' : β → Prop} (g : α → β) (hC : ∀ a, C' (g a) = C a) (hw : ∀ a, wf a → wf' (g a)) : OpensC P t n C' wf' := by
  intro H enc w fuel cs x hx
  obtain ⟨h1, a, h2, h3, N0, h4⟩ := h H enc w fuel cs x hx
  exact ⟨h1, g a, hw a h2, by rw [hC]; exact h3, N0, by rw [hC]; exact h4⟩
theorem opens_struct {t : TypeId} {fs : Array Field} {n : Nat} {α : Type} {C : α → List AV} {wf : α → Prop} (ht : P.underlying t = some (.struct fs)) (hn : P.cellsOf t = n)
    (hf : OpensF P (fs.toList.map fun f => (f.type, f.offset)) 0 n C wf) : OpensC P t n C wf := by
  intro H enc w fuel cs x h
  obtain ⟨xs, m, _, _, hl, hxl, hel⟩ := DataW.trod_struct ht h
  obtain ⟨a, ha, hfa, N0, hN⟩ := hf H enc w m cs fun f hf => by
    obtain ⟨g, hg, rfl⟩ := List.mem_map.1 hf
    obtain ⟨i, hi⟩ := List.getElem?_of_mem hg
    have h1 := hel i g (by rw [← Array.getElem?_toList]; exact hi)
    have hi' := (List.getElem?_eq_some_iff.1 hi).1
    rw [List.getElem?_eq_getElem (by simpa [hxl] using hi')] at h1
    exact ⟨_, h1⟩
  refine ⟨by rw [hl, hn], a, ha, hfa, N0, fun N h => ?_⟩
  have := hN N h
  rwa [List.drop_zero, List.take_of_length_le (by omega)] at this
theorem opens_array {t e : TypeId} {m k n : Nat} {α : Type} {C : α → List AV} {wf : α → Prop} (ht : P.underlying t = some (.array m e)) (hn : P.cellsOf t = n) (hk : P.cellsOf e = k)
    (hf : OpensF P ((List.range m).map fun i => (e, i * k)) 0 n C wf) : OpensC P t n C wf := by
  intro H enc w fuel cs x h
  obtain ⟨xs, q, _, _, hl, hxl, hel⟩ := DataW.trod_array ht h
  obtain ⟨a, ha, hfa, N0, hN⟩ := hf H enc w q cs fun f hf => by
    obtain ⟨i, hi, rfl⟩ := List.mem_map.1 hf
    have hi' := List.mem_range.1 hi
    have h1 := hel i hi'
    rw [List.getElem?_eq_getElem (by omega), hk] at h1
    rw [hk]
    exact ⟨_, h1⟩
  refine ⟨by rw [hl, hn], a, ha, hfa, N0, fun N h => ?_⟩
  have := hN N h
  rwa [List.drop_zero, List.take_of_length_le (by omega)] at this

/-! Arguments. -/
section
variable {H : Type} {enc : TypeId × Value → H} {w : World} {t : TypeId} {α : Type} [Enc α] {wf : α → Prop} {b0 : Nat} {v : Value} {d : DataW H} {ps : List MemPlace}
theorem open_agg (hs : (∃ fs, P.underlying t = some (.struct fs)) ∨ ∃ n e, P.underlying t = some (.array n e)) (he : Opens P t α wf) (hval : Value.okWide P w .any b0 t v) (h : DataW.Trod enc P w 0 (fun _ => true) true t v d ps) :
    ∃ a : α, wf a ∧ ∃ N0, ∀ N, N0 ≤ N → VR w (bigR N w) (.agg (Enc.cells a)) v := by
  have hv : ∃ cs, v = .agg cs := by
    unfold Value.okWide at hval
    rcases hs with ⟨fs, hs⟩ | ⟨n, e, hs⟩ <;> rw [hs] at hval <;> obtain ⟨cs, rfl, _⟩ := hval <;> exact ⟨cs, rfl⟩
  obtain ⟨cs, rfl⟩ := hv
  obtain ⟨fuel, hf⟩ := h
  obtain ⟨_, a, ha, hfl, N0, hN⟩ := he H enc w fuel _ _ hf
  refine ⟨a, ha, N0, fun N h => ?_⟩
  have h1 := hN N h
  exact .agg _ _ hfl (by simpa [Value.cells] using h1.1) fun j c v h2 h3 => h1.2 j c v h2 (by simpa [Value.cells] using h3)
theorem open_plain (hs : ∀ cs, v ≠ .agg cs) (he : Opens P t α wf) (h : DataW.Trod enc P w 0 (fun _ => true) true t v d ps) :
    ∃ a : α, wf a ∧ ∃ N0, ∀ N, N0 ≤ N → VRs w (bigR N w) (Enc.cells a) [v] := by
  obtain ⟨fuel, hf⟩ := h
  obtain ⟨_, a, ha, _, N0, hN⟩ := he H enc w fuel _ _ hf
  refine ⟨a, ha, N0, fun N h => ?_⟩
  have h1 := hN N h
  have : v.cells.toList = [v] := by
    cases v <;> first | rfl | exact absurd rfl (hs _)
  rwa [this] at h1
theorem VRs.head {R : Nat → Nat} {a : AV} (h : VRs w R [a] [v]) : VR w R a v := h.2 0 a v rfl rfl
theorem open_i64 (ht : P.underlying t = some (.int .i64)) (hval : Value.okWide P w .any b0 t v) (h : DataW.Trod enc P w 0 (fun _ => true) true t v d ps) :
    ∃ n : Int, (-9223372036854775808 ≤ n ∧ n ≤ 9223372036854775807) ∧ ∃ N0, ∀ N, N0 ≤ N → VR w (bigR N w) (.int .i64 n) v := by
  obtain ⟨n, rfl, _⟩ := open_int ht hval h
  obtain ⟨a, ha, N0, hN⟩ := open_plain (fun _ h => by cases h) (opens_int ht) h
  exact ⟨a, ha, N0, fun N h => (hN N h).head⟩
theorem open_byte (ht : P.underlying t = some (.int .u8)) (hval : Value.okWide P w .any b0 t v) (h : DataW.Trod enc P w 0 (fun _ => true) true t v d ps) :
    ∃ n : UInt8, True ∧ ∃ N0, ∀ N, N0 ≤ N → VR w (bigR N w) (.int .u8 n.toNat) v := by
  obtain ⟨n, rfl, _⟩ := open_int ht hval h
  obtain ⟨a, ha, N0, hN⟩ := open_plain (fun _ h => by cases h) (opens_u8 ht) h
  exact ⟨a, ha, N0, fun N h => (hN N h).head⟩
theorem open_w32 (ht : P.underlying t = some (.int .u32)) (hval : Value.okWide P w .any b0 t v) (h : DataW.Trod enc P w 0 (fun _ => true) true t v d ps) :
    ∃ n : UInt32, True ∧ ∃ N0, ∀ N, N0 ≤ N → VR w (bigR N w) (.int .u32 n.toNat) v := by
  obtain ⟨n, rfl, _⟩ := open_int ht hval h
  obtain ⟨a, ha, N0, hN⟩ := open_plain (fun _ h => by cases h) (opens_u32 ht) h
  exact ⟨a, ha, N0, fun N h => (hN N h).head⟩
theorem open_w64 (ht : P.underlying t = some (.int .u64)) (hval : Value.okWide P w .any b0 t v) (h : DataW.Trod enc P w 0 (fun _ => true) true t v d ps) :
    ∃ n : UInt64, True ∧ ∃ N0, ∀ N, N0 ≤ N → VR w (bigR N w) (.int .u64 n.toNat) v := by
  obtain ⟨n, rfl, _⟩ := open_int ht hval h
  obtain ⟨a, ha, N0, hN⟩ := open_plain (fun _ h => by cases h) (opens_u64 ht) h
  exact ⟨a, ha, N0, fun N h => (hN N h).head⟩
theorem open_truth (ht : P.underlying t = some .bool) (hval : Value.okWide P w .any b0 t v) (h : DataW.Trod enc P w 0 (fun _ => true) true t v d ps) :
    ∃ b : Bool, True ∧ ∃ N0, ∀ N, N0 ≤ N → VR w (bigR N w) (.bool b) v := by
  obtain ⟨n, rfl, _⟩ := open_bool ht hval h
  exact ⟨n, trivial, 0, fun N _ => .bool n⟩
theorem open_text (ht : P.underlying t = some .string) (hval : Value.okWide P w .any b0 t v) (h : DataW.Trod enc P w 0 (fun _ => true) true t v d ps) :
    ∃ s : Str, s.b.length ≤ maxLen ∧ ∃ N0, ∀ N, N0 ≤ N → VR w (bigR N w) (.str s.b) v := by
  obtain ⟨n, rfl, _⟩ := Go.ChangeMaps.open_string ht hval h
  obtain ⟨a, ha, N0, hN⟩ := open_plain (fun _ h => by cases h) (opens_str ht) h
  exact ⟨a, ha, N0, fun N h => (hN N h).head⟩
end

theorem args1 {w : World} {R : Nat → Nat} {a0 : AV} {v0 : Value} (h0 : VR w R a0 v0) : ArgsR w R [a0] #[v0] :=
  ⟨rfl, fun j a v h1 h2 => by match j, h1, h2 with | 0, h1, h2 => (cases h1; cases h2; exact h0)⟩
theorem args2 {w : World} {R : Nat → Nat} {a0 a1 : AV} {v0 v1 : Value} (h0 : VR w R a0 v0) (h1 : VR w R a1 v1) : ArgsR w R [a0, a1] #[v0, v1] :=
  ⟨rfl, fun j a v k1 k2 => by match j, k1, k2 with | 0, k1, k2 => (cases k1; cases k2; exact h0) | 1, k1, k2 => (cases k1; cases k2; exact h1)⟩
theorem args3 {w : World} {R : Nat → Nat} {a0 a1 a2 : AV} {v0 v1 v2 : Value} (h0 : VR w R a0 v0) (h1 : VR w R a1 v1) (h2 : VR w R a2 v2) : ArgsR w R [a0, a1, a2] #[v0, v1, v2] :=
  ⟨rfl, fun j a v k1 k2 => by match j, k1, k2 with | 0, k1, k2 => (cases k1; cases k2; exact h0) | 1, k1, k2 => (cases k1; cases k2; exact h1) | 2, k1, k2 => (cases k1; cases k2; exact h2)⟩
end
end Go.AB
end

section
namespace Go.AB
open Go

def fieldsAre (P : Program) (t : TypeId) (L : List (TypeId × Nat)) : Bool := match P.underlying t with
  | some (.struct fs) => fs.toList.map (fun f => (f.type, f.offset)) == L
  | _ => false
theorem opens_fields {P : Program} {t : TypeId} {L : List (TypeId × Nat)} {n : Nat} {α : Type} {C : α → List AV} {wf : α → Prop} (hs : fieldsAre P t L = true) (hn : P.cellsOf t = n) (hf : OpensF P L 0 n C wf) : OpensC P t n C wf := by
  unfold fieldsAre at hs
  split at hs
  · rename_i fs ht
    have he := eq_of_beq hs
    exact opens_struct ht hn (by rw [he]; exact hf)
  · cases hs
end Go.AB
end

section
namespace Go.AB
open Go Go.RowKit Go.ChangeShapes Go.WideShapes

/-- What cells of a Go type read as, up to a depth. -/
def OpensB (K : Nat) (P : Program) (t : TypeId) {α : Type} (n : Nat) (C : α → List AV) (wf : α → Prop) : Prop :=
  ∀ (H : Type) (enc : TypeId × Value → H) (w : World) (fuel : Nat) (cs : List Value) (x : DataW H × List MemPlace), fuel ≤ K → DataW.trod enc P w 0 (fun _ => true) true fuel t cs = some x →
    cs.length = n ∧ ∃ a : α, wf a ∧ Fl (C a) ∧ ∃ N0, ∀ N, N0 ≤ N → VRs w (bigR N w) (C a) cs
def OpensFB (K : Nat) (P : Program) (fs : List (TypeId × Nat)) (o : Nat) {α : Type} (n : Nat) (C : α → List AV) (wf : α → Prop) : Prop :=
  ∀ (H : Type) (enc : TypeId × Value → H) (w : World) (fuel : Nat) (cs : List Value), fuel ≤ K → (∀ f ∈ fs, ∃ x, DataW.trod enc P w 0 (fun _ => true) true fuel f.1 ((cs.drop f.2).take (P.cellsOf f.1)) = some x) →
    ∃ a : α, wf a ∧ Fl (C a) ∧ ∃ N0, ∀ N, N0 ≤ N → VRs w (bigR N w) (C a) ((cs.drop o).take n)

section
variable {P : Program} {t : TypeId}

theorem OpensC.b {n : Nat} {α : Type} {C : α → List AV} {wf : α → Prop} (h : OpensC P t n C wf) (K : Nat) : OpensB K P t n C wf := fun H enc w fuel cs x _ hx => h H enc w fuel cs x hx
theorem OpensB.all {n : Nat} {α : Type} {C : α → List AV} {wf : α → Prop} (h : ∀ K, OpensB K P t n C wf) : OpensC P t n C wf := fun H enc w fuel cs x hx => h fuel H enc w fuel cs x (Nat.le_refl _) hx
theorem OpensB.le {n : Nat} {α : Type} {C : α → List AV} {wf : α → Prop} {K K' : Nat} (h : OpensB K P t n C wf) (hk : K' ≤ K) : OpensB K' P t n C wf := fun H enc w fuel cs x hf hx => h H enc w fuel cs x (Nat.le_trans hf hk) hx
theorem OpensB.zero {n : Nat} {α : Type} {C : α → List AV} {wf : α → Prop} : OpensB 0 P t n C wf := fun H enc w fuel cs x hf hx => by
  have : fuel = 0 := by omega
  subst this
  simp [DataW.trod] at hx
theorem OpensB.map {K n : Nat} {α β : Type} {C : α → List AV} {wf : α → Prop} (h : OpensB K P t n C wf) {C' : β → List AV} {wf' : β → Prop} (g : α → β) (hC : ∀ a, C' (g a) = C a) (hw : ∀ a, wf a → wf' (g a)) : OpensB K P t n C' wf' := by
  intro H enc w fuel cs x hf hx
  obtain ⟨h1, a, h2, h3, N0, h4⟩ := h H enc w fuel cs x hf hx
  exact ⟨h1, g a, hw a h2, by rw [hC]; exact h3, N0, by rw [hC]; exact h4⟩

theorem opensFB_nil {K o : Nat} : OpensFB K P [] o 0 (fun _ : Unit => []) fun _ => True :=
  fun _ _ _ _ _ _ _ => ⟨(), trivial, (fun _ h => absurd h List.not_mem_nil), 0, fun _ _ => ⟨by simp, fun j a v h => by simp at h⟩⟩
theorem opensFB_cons {K : Nat} {t : TypeId} {o n1 n2 : Nat} {fs : List (TypeId × Nat)} {α β : Type} {C1 : α → List AV} {C2 : β → List AV} {wf1 : α → Prop} {wf2 : β → Prop}
    (h1 : OpensB K P t n1 C1 wf1) (hc : P.cellsOf t = n1) (h2 : OpensFB K P fs (o + n1) n2 C2 wf2) : OpensFB K P ((t, o) :: fs) o (n1 + n2) (fun p : α × β => C1 p.1 ++ C2 p.2) fun p => wf1 p.1 ∧ wf2 p.2 := by
  intro H enc w fuel cs hk h
  obtain ⟨x, hx⟩ := h _ List.mem_cons_self
  obtain ⟨_, a, ha, hfa, N1, hN1⟩ := h1 H enc w fuel _ x hk hx
  obtain ⟨b, hb, hfb, N2, hN2⟩ := h2 H enc w fuel cs hk fun f hf => h f (List.mem_cons_of_mem _ hf)
  refine ⟨(a, b), ⟨ha, hb⟩, fun c hc => (List.mem_append.1 hc).elim (hfa c) (hfb c), max N1 N2, fun N hN => ?_⟩
  rw [List.take_add, List.drop_drop]
  refine VRs.append ?_ (hN2 N (by omega))
  rw [← hc]
  exact hN1 N (by omega)

theorem opens_fieldsB {K : Nat} {L : List (TypeId × Nat)} {n : Nat} {α : Type} {C : α → List AV} {wf : α → Prop} (hs : fieldsAre P t L = true) (hn : P.cellsOf t = n) (hf : OpensFB K P L 0 n C wf) : OpensB (K + 1) P t n C wf := by
  unfold fieldsAre at hs
  split at hs
  · rename_i fs ht
    have he := eq_of_beq hs
    subst he
    intro H enc w fuel cs x hk h
    obtain ⟨xs, m, rfl, _, hl, hxl, hel⟩ := DataW.trod_struct ht h
    obtain ⟨a, ha, hfa, N0, hN⟩ := hf H enc w m cs (by omega) fun f hf => by
      obtain ⟨g, hg, rfl⟩ := List.mem_map.1 hf
      obtain ⟨i, hi⟩ := List.getElem?_of_mem hg
      have h1 := hel i g (by rw [← Array.getElem?_toList]; exact hi)
      have hi' := (List.getElem?_eq_some_iff.1 hi).1
      rw [List.getElem?_eq_getElem (by simpa [hxl] using hi')] at h1
      exact ⟨_, h1⟩
    refine ⟨by rw [hl, hn], a, ha, hfa, N0, fun N h => ?_⟩
    have := hN N h
    rwa [List.drop_zero, List.take_of_length_le (by omega)] at this
  · cases hs

/-- A slice of them, as a cell. -/
theorem slice_cell {w : World} {α : Type} [Enc α] {wf : α → Prop} {a : Addr} {len cap : Nat} (hl : len ≤ cap) (hm : cap ≤ maxLen)
    (each : ∀ i, i < len → ∃ x : α × List Value, wf x.1 ∧ Fl (Enc.cells x.1) ∧ w.cells? 0 (a.add (i * Enc.w α)) (Enc.w α) = some x.2 ∧ ∃ N0, ∀ N, N0 ≤ N → VRs w (bigR N w) (Enc.cells x.1) x.2) :
    ∃ l : List α, (l.length ≤ maxLen ∧ ∀ a ∈ l, wf a) ∧ Fl [.sl false (Enc.w α) l.length (flat l)] ∧ ∃ N0, ∀ N, N0 ≤ N → VRs w (bigR N w) [.sl false (Enc.w α) l.length (flat l)] [.slice (some a) len cap] := by
  have hw : 0 < Enc.w α := Enc.pos
  rcases Nat.eq_zero_or_pos len with h0 | h0
  · subst h0
    exact ⟨[], ⟨Nat.zero_le _, fun _ h => absurd h List.not_mem_nil⟩, fl_one rfl, 0, fun N _ => .one (.sle _ _ _)⟩
  obtain ⟨b, off, spot⟩ := a
  have hplain : spot = none ∧ b < w.heap.size := by
    obtain ⟨x, _, _, h2, _⟩ := each 0 h0
    obtain ⟨_, h3, h4⟩ := World.cells?_some h2
    have h5 := h4 0 hw
    have hxl : 0 < x.2.length := by omega
    rw [List.getElem?_eq_getElem hxl] at h5
    unfold World.cell? at h5
    have e1 : (((⟨b, off, spot⟩ : Addr).add (0 * Enc.w α)).add 0).block = b := by
      unfold Addr.add; repeat' split
      all_goals rfl
    have e2 : (((⟨b, off, spot⟩ : Addr).add (0 * Enc.w α)).add 0).spot.isSome = spot.isSome := by
      cases spot with
      | none => unfold Addr.add; repeat' split
                all_goals simp_all
      | some q => unfold Addr.add; repeat' split
                  all_goals simp_all
    rw [e1, e2] at h5
    split at h5
    · rename_i hh
      refine ⟨?_, (Array.getElem?_eq_some_iff.1 hh).1⟩
      cases spot with
      | none => rfl
      | some q => simp at h5
    · cases h5
  obtain ⟨rfl, hb⟩ := hplain
  obtain ⟨L, hL, hQ⟩ := choose_list len each
  have hx : ∀ i, i < len → ∃ x, L[i]? = some x := fun i hi => ⟨L[i]'(by omega), List.getElem?_eq_getElem (by omega)⟩
  obtain ⟨N0, hN0⟩ := common (Q := fun i N => ∀ x, L[i]? = some x → VRs w (bigR N w) (Enc.cells x.1) x.2) len fun i hi => by
    obtain ⟨x, hx⟩ := hx i hi
    obtain ⟨_, _, _, N0, h⟩ := hQ i x hx
    exact ⟨N0, fun N hN y hy => by rw [hx] at hy; cases hy; exact h N hN⟩
  have hwf : ∀ a ∈ L.map (·.1), wf a ∧ Fl (Enc.cells a) := by
    intro a ha
    obtain ⟨x, hx, rfl⟩ := List.mem_map.1 ha
    obtain ⟨i, hi⟩ := List.getElem?_of_mem hx
    have := hQ i x hi
    exact ⟨this.1, this.2.1⟩
  have hget : ∀ (j : Nat) (c : AV), (flat (L.map (·.1)))[j]? = some c → ∃ v, w.cell? ⟨b, off + j, none⟩ = some v ∧ ∀ N, N0 ≤ N → VR w (bigR N w) c v := by
    intro j c hj
    have hjl := (List.getElem?_eq_some_iff.1 hj).1
    rw [flat_len, List.length_map, hL] at hjl
    have hi : j / Enc.w α < len := Nat.div_lt_of_lt_mul (by rw [Nat.mul_comm]; exact hjl)
    have hr : j % Enc.w α < Enc.w α := Nat.mod_lt _ hw
    have hje : j = j / Enc.w α * Enc.w α + j % Enc.w α := by rw [Nat.mul_comm]; exact (Nat.div_add_mod _ _).symm
    obtain ⟨x, hx⟩ := hx _ hi
    have h1 := flat_get (L.map (·.1)) (i := j / Enc.w α) (a := x.1) (by rw [List.getElem?_map, hx]; rfl) hr
    rw [← hje, hj] at h1
    obtain ⟨_, _, h2, _⟩ := hQ _ x hx
    obtain ⟨_, h3, h4⟩ := World.cells?_some h2
    have h5 := h4 _ hr
    rw [add_plain, add_plain, Nat.add_assoc, ← hje] at h5
    refine ⟨x.2[j % Enc.w α]'(by omega), by rw [h5, List.getElem?_eq_getElem], fun N hN => ?_⟩
    exact (hN0 N hN _ hi x hx).2 _ _ _ h1.symm (List.getElem?_eq_getElem _)
  refine ⟨L.map (·.1), ⟨by rw [List.length_map, hL]; omega, fun a ha => (hwf a ha).1⟩, fl_one rfl, max N0 (off + len * Enc.w α), fun N hN => .one ?_⟩
  rw [List.length_map, hL]
  refine .sl false (Enc.w α) len _ b off cap (fun j => (w.cell? ⟨b, off + j, none⟩).getD default) ?_ ?_ ?_ hl ?_ ?_
  · intro c hcm
    unfold flat at hcm
    obtain ⟨l, hl, hcl⟩ := List.mem_flatten.1 hcm
    obtain ⟨a, ha, rfl⟩ := List.mem_map.1 hl
    exact (hwf a ha).2 c hcl
  · rw [flat_len, List.length_map, hL]
  · rw [flat_len, List.length_map, hL]
    unfold bigR
    rw [if_pos hb]; omega
  · intro j c hj
    obtain ⟨v, h1, _⟩ := hget j c hj
    rw [h1]; rfl
  · intro j c hj
    obtain ⟨v, h1, h2⟩ := hget j c hj
    simp only [h1, Option.getD_some]; exact h2 N (by omega)

theorem opens_sliceB {K : Nat} {e : TypeId} {α : Type} [Enc α] {wf : α → Prop} (ht : P.underlying t = some (.slice e)) (hc : P.cellsOf e = Enc.w α) (he : OpensB K P e (Enc.w α) (Enc.cells : α → List AV) wf) :
    OpensB (K + 1) P t 1 (fun l : List α => [.sl false (Enc.w α) l.length (flat l)]) fun l => l.length ≤ maxLen ∧ ∀ a ∈ l, wf a := by
  intro H enc w fuel cs x hk h
  rcases DataW.trod_slice ht h with ⟨rfl, _⟩ | ⟨a, len, cap, elems, rest, n, rfl, rfl, _, _, hl, hm, hlen, hel, _⟩
  · exact ⟨rfl, [], ⟨Nat.zero_le _, fun _ h => absurd h List.not_mem_nil⟩, fl_one rfl, 0, fun N _ => .one (.slnil _ _)⟩
  · refine ⟨rfl, slice_cell hl hm fun i hi => ?_⟩
    have h1 := hel i hi
    rw [hc, List.getElem?_eq_getElem (by omega), Option.bind_eq_some_iff] at h1
    obtain ⟨cs, h2, h3⟩ := h1
    obtain ⟨_, x, h4, h5, h6⟩ := he H enc w n cs _ (by omega) h3
    exact ⟨(x, cs), h4, h5, h2, h6⟩
theorem opens_sliceC {e : TypeId} {α : Type} [Enc α] {wf : α → Prop} (ht : P.underlying t = some (.slice e)) (hc : P.cellsOf e = Enc.w α) (he : Opens P e α wf) :
    OpensC P t 1 (fun l : List α => [.sl false (Enc.w α) l.length (flat l)]) fun l => l.length ≤ maxLen ∧ ∀ a ∈ l, wf a :=
  OpensB.all fun K => (opens_sliceB ht hc (OpensC.b he K)).le (Nat.le_succ K)

theorem fieldsAre_ex {L : List (TypeId × Nat)} (hs : fieldsAre P t L = true) : ∃ fs, P.underlying t = some (.struct fs) := by
  unfold fieldsAre at hs
  split at hs
  · rename_i fs ht; exact ⟨fs, ht⟩
  · cases hs
theorem okWide_slice {w : World} {e : TypeId} {b0 : Nat} {v : Value} (ht : P.underlying t = some (.slice e)) (hval : Value.okWide P w .any b0 t v) : ∀ cs, v ≠ .agg cs := by
  intro cs h
  subst h
  unfold Value.okWide Cell.okWide Cell.ok at hval
  rw [ht] at hval
  exact hval
/-- An argument that is a slice. -/
theorem open_row {H : Type} {enc : TypeId × Value → H} {w : World} {e : TypeId} {α : Type} [Enc α] {wf : α → Prop} {v : Value} {d : DataW H} {ps : List MemPlace}
    (ht : P.underlying t = some (.slice e)) (hc : P.cellsOf e = Enc.w α) (he : Opens P e α wf) (h : DataW.Trod enc P w 0 (fun _ => true) true t v d ps) (hv : ∀ cs, v ≠ .agg cs) :
    ∃ l : List α, (l.length ≤ maxLen ∧ ∀ a ∈ l, wf a) ∧ ∃ N0, ∀ N, N0 ≤ N → VR w (bigR N w) (.sl false (Enc.w α) l.length (flat l)) v := by
  obtain ⟨fuel, hf⟩ := h
  obtain ⟨_, l, hl, _, N0, hN⟩ := opens_sliceC ht hc he H enc w fuel _ _ hf
  have hcells : v.cells.toList = [v] := by
    cases v <;> first | rfl | exact absurd rfl (hv _)
  refine ⟨l, hl, N0, fun N h => ?_⟩
  have := hN N h
  rw [hcells] at this
  exact this.head
end
end Go.AB
end

section
set_option linter.unusedSimpArgs false
namespace Go.AB
open Go Go.ChangeShapes Go.WideShapes Go.ChangeAt Go.RowKit Go.Proofs.Ytpioecahefokmaa Go.Proofs

inductive wf_api_Value : api_Value → Prop where
  | mk (x : api_Value) (h1 : -9223372036854775808 ≤ x.Kind ∧ x.Kind ≤ 9223372036854775807) (h2 : -9223372036854775808 ≤ x.N ∧ x.N ≤ 9223372036854775807) (h3 : x.S.b.length ≤ maxLen) (h4 : x.L.length ≤ maxLen) (h5 : ∀ v ∈ x.L, wf_api_Value v) : wf_api_Value x
theorem opens_24 : Opens Go.Proofs.Try.prog 24 api_Value wf_api_Value := by
  refine OpensB.all fun K => ?_
  induction K using Nat.strongRecOn with | ind K ih =>
  cases K with
  | zero => exact OpensB.zero
  | succ K =>
    have hs : OpensB K Go.Proofs.Try.prog 22 1 (fun l : List api_Value => [.sl false 4 l.length (flat l)]) (fun l => l.length ≤ maxLen ∧ ∀ a ∈ l, wf_api_Value a) := by
      cases K with
      | zero => exact OpensB.zero
      | succ k => exact opens_sliceB (by kernel_rfl) (by kernel_rfl) (ih k (by omega))
    exact OpensB.map (opens_fieldsB (L := [(3, 0), (3, 1), (9, 2), (22, 3)]) (by kernel_rfl) (by kernel_rfl) (opensFB_cons ((opens_int (P := Go.Proofs.Try.prog) (t := 3) (by kernel_rfl)).b K) (by kernel_rfl) (opensFB_cons ((opens_int (P := Go.Proofs.Try.prog) (t := 3) (by kernel_rfl)).b K) (by kernel_rfl) (opensFB_cons ((opens_str (P := Go.Proofs.Try.prog) (t := 9) (by kernel_rfl)).b K) (by kernel_rfl) (opensFB_cons hs (by kernel_rfl) opensFB_nil)))))
      (fun p => ⟨p.1, p.2.1, p.2.2.1, p.2.2.2.1⟩) (fun p => by rw [cells_api_Value]; rfl) (fun p h => .mk _ h.1 h.2.1 h.2.2.1 h.2.2.2.1.1 h.2.2.2.1.2)
def wf_api_Object (x : api_Object) : Prop := wf_api_Value x.V ∧ True ∧ x.Data.b.length ≤ maxLen ∧ True
theorem opens_48 : Opens Go.Proofs.Try.prog 48 api_Object wf_api_Object :=
  OpensC.map (opens_fields (L := [(24, 0), (4, 4), (9, 5)]) (by kernel_rfl) (by kernel_rfl) (opensF_cons opens_24 (by kernel_rfl) (opensF_cons (opens_bool (P := Go.Proofs.Try.prog) (t := 4) (by kernel_rfl)) (by kernel_rfl) (opensF_cons (opens_str (P := Go.Proofs.Try.prog) (t := 9) (by kernel_rfl)) (by kernel_rfl) opensF_nil))))
    (fun p => ⟨p.1, p.2.1, p.2.2.1⟩) (fun p => by first | rfl | (simp only [cells_api_Value, cells_api_Object]; rfl)) (fun _ h => h)
theorem opens_32 : OpensC Go.Proofs.Try.prog 32 1 (fun l : List api_Object => [.sl false 6 l.length (flat l)]) (fun l => l.length ≤ maxLen ∧ ∀ a ∈ l, wf_api_Object a) := opens_sliceC (by kernel_rfl) (by kernel_rfl) opens_48
def wf_api_Doc (x : api_Doc) : Prop := (x.Objects.length ≤ maxLen ∧ ∀ a ∈ x.Objects, wf_api_Object a) ∧ (-9223372036854775808 ≤ x.Root ∧ x.Root ≤ 9223372036854775807) ∧ True
theorem opens_34 : Opens Go.Proofs.Try.prog 34 api_Doc wf_api_Doc :=
  OpensC.map (opens_fields (L := [(32, 0), (3, 1)]) (by kernel_rfl) (by kernel_rfl) (opensF_cons opens_32 (by kernel_rfl) (opensF_cons (opens_int (P := Go.Proofs.Try.prog) (t := 3) (by kernel_rfl)) (by kernel_rfl) opensF_nil)))
    (fun p => ⟨p.1, p.2.1⟩) (fun p => by first | rfl | (simp only [cells_api_Value, cells_api_Doc]; rfl)) (fun _ h => h)
theorem law20_TreeWay_own : ownKnob Try.prog.godebug = none := by kernel_rfl
theorem law20_TreeWay_laid : laidOutB Try.prog = true := by kernel_rfl
theorem law20_TreeWay_ub : Try.prog.underlying 4 = some .bool := by kernel_rfl
set_option maxRecDepth 100000 in
theorem law20_TreeWay_law {H : Type} {enc : TypeId × Value → H} {W : World} {base : Nat} {args : Array Value} {ds gs : List (DataW H)} {before : List MemPlace}
    (hval0 : ∀ (j : Nat) t v, Try.f6.params[j]? = some t → args[j]? = some v → Value.okWide Try.prog W .any base t v)
    (hW : DataW.Whole enc Try.prog Try.f6.params.toList Rows.treeWaySpec.vars false W args.toList ds gs before) :
    Calls Try.prog 6 args W fun e w' => e = .returned (.bool true) ∧ Below W.heap.size W w' := by
  obtain ⟨p, q, hA0, hV, rfl, hfz, hnd⟩ := hW
  have hval := hval0
  have hA : DataW.TrodAll enc Try.prog W 0 (fun _ => true) true Try.f6.params.toList args.toList ds p := hA0
  have hp : Try.f6.params = #[34, 3] := by kernel_rfl
  rw [hp] at hA hval
  obtain ⟨v0, v1, d0, d1, p0, p1, rfl, rfl, rfl, h0, h1⟩ := trodAll_two hA
  obtain ⟨x0, w0, N0, k0⟩ := open_agg (.inl (fieldsAre_ex (L := [(32, 0), (3, 1)]) (by kernel_rfl))) opens_34 (hval 0 34 v0 rfl rfl) h0
  obtain ⟨x1, w1, N1, k1⟩ := open_i64 (by kernel_rfl) (hval 1 3 v1 rfl rfl) h1
  refine law_calls' (max N0 N1) ?_ (args2 (k0 _ (by omega)) (k1 _ (by omega)))
  exact (law20_TreeWay_fe (law20_TreeWay_true x0 x1)).app rfl

end Go.AB
namespace Go.Proofs.Ytpioecahefokmaa
open Go.ChangeShapes Go.WideShapes Go.ChangeAt Go.RowKit
set_option maxRecDepth 100000 in
theorem treeWay_lifted (os : Os) (started : os.Started) (H : Type) (enc : TypeId × Value → H) :
    ReturnsInHanded {} Try.checked os 6 .any (Rows.treeWaySpec.pre6 enc Try.prog Try.f6 Rows.treeWayRow.domain false) (Rows.treeWaySpec.post enc Try.prog Try.f6 false true false false) := by
  refine returnsInHanded_of_change (C := Try.checked) AB.law20_TreeWay_own started (by kernel_rfl) Try.func6
    (ChangeSpec.witness6 (enc := enc) (C := Try.checked) false ⟨#[], #[.agg #[.slice none 0 0, .int .i64 0], .int .i64 0], []⟩ 8 (by kernel_rfl) (by kernel_rfl) (by kernel_rfl) (by kernel_rfl)) ?_
  intro W base args ds gs before hval hW _ _
  exact AB.law_post rfl (by kernel_rfl) AB.law20_TreeWay_ub AB.law20_TreeWay_laid (of_decide_eq_true (by kernel_rfl)) (fun ds h => by
    match ds, h with
    | [_, _], _ => rfl) hW (AB.law20_TreeWay_law hval hW)

theorem treeWay_holds : Rows.TreeWaySaid :=
  OpenClaim.holds_of_wide 6 Try.f6 rfl rfl rfl rfl rfl rfl rfl ⟨rfl, rfl, rfl, rfl, rfl⟩ rfl rfl rfl rfl rfl (by kernel_rfl) Try.func6 (by kernel_rfl)
    (of_decide_eq_true (by kernel_rfl)) (by unfold Func.isWrapper; first | (rw [if_pos (by decide +kernel)]; kernel_rfl) | (rw [if_neg (by decide +kernel)]; exact ⟨rfl, rfl⟩))
    (fun os started H enc _ => treeWay_lifted os started H enc)
end Go.Proofs.Ytpioecahefokmaa
end
