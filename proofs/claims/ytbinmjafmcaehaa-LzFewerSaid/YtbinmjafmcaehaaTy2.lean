/- The typed layer, part 2: what a function comes to; loops. -/
import Derived.Test.YtbinmjafmcaehaaTy1
namespace Go.AB
open Go

/-- It comes to something that is so. -/
def ok {α : Type} (o : Option α) (K : α → Prop) : Prop := ∃ a, o = some a ∧ K a
/-- It goes on only where that holds. -/
def need {α : Type} (c : Prop) [Decidable c] (o : Option α) : Option α := if c then o else none
/-- What is reckoned only under a guard. -/
def whenB {α : Type} (g : Bool) (z : α) (o : Option α) : Option α := bif g then o else some z
def bnd {α β : Type} (o : Option α) (f : α → Option β) : Option β := match o with
  | some a => f a
  | none => none
def iterN {S O : Type} (body : S → Option (S ⊕ O)) : Nat → S → Option O
  | 0, _ => none
  | n + 1, s => match body s with
    | none => none
    | some (.inl t) => iterN body n t
    | some (.inr o) => some o
def iter {S O : Type} (body : S → Option (S ⊕ O)) (s : S) : Option O := iterN body 18446744073709551616 s
def caseS {A B C : Type} (f : A → C) (g : B → C) : A ⊕ B → C
  | .inl a => f a
  | .inr b => g b

section
variable {α β : Type} (K : α → Prop)
@[go_sem] theorem ok_some (a : α) : ok (some a) K = K a := by simp [ok]
@[go_sem] theorem ok_none : ok none K = False := by simp [ok]
@[go_sem] theorem ok_need (c : Prop) [Decidable c] (o : Option α) : ok (need c o) K = (c ∧ ok o K) := by
  unfold need
  by_cases h : c <;> simp [h, ok]
@[go_sem] theorem ok_bnd (o : Option β) (f : β → Option α) : ok (bnd o f) K = ok o (fun b => ok (f b) K) := by cases o <;> simp [bnd, ok]
@[go_sem] theorem ok_ite (c : Bool) (a b : Option α) : ok (if c = true then a else b) K = ((c = true → ok a K) ∧ (c = false → ok b K)) := by cases c <;> simp
theorem ok_when (g : Bool) (z : α) (o : Option α) : ok (whenB g z o) K = ∃ a, (g = true → o = some a) ∧ (g = false → a = z) ∧ K a := by
  cases g <;> simp [whenB, ok]
@[go_sem] theorem caseS_l {A B C : Type} (f : A → C) (g : B → C) (a : A) : caseS f g (.inl a) = f a := rfl
@[go_sem] theorem caseS_r {A B C : Type} (f : A → C) (g : B → C) (b : B) : caseS f g (.inr b) = g b := rfl
end

theorem and_to {A B C D : Prop} (h : A → C) (k : B → D) : A ∧ B → C ∧ D := fun x => ⟨h x.1, k x.2⟩
theorem im_to {p A B : Prop} (h : A → B) : (p → A) → p → B := fun x y => h (x y)
theorem tt_to {A : Prop} : A → A := fun h => h
/-- Under what the guard says. -/
theorem im_to' {p A B : Prop} (h : p → A → B) : (p → A) → p → B := fun x y => h y (x y)

variable {P : Program}

/-- A call. -/
theorem call_to {β : Type} {o : Option β} {kf : β → Prop} {f : FuncId} {as : List AV} {s : Store} {enc : β → List AV} {Q : List AV → Store → Prop}
    (hf : ∀ r, o = some r → FE P f as s (enc r) s) (hk : ∀ r, kf r → Q (enc r) s) : ok o kf → FN P f as s Q := fun ⟨r, h, k⟩ => FE.app (hf r h) (hk r k)
theorem call_to_q {β : Type} {o : Option β} {kf : β → Prop} {f : FuncId} {as : List AV} {s : Store} {enc : β → List AV} {Q : List AV → Prop}
    (hf : ∀ r, o = some r → FE P f as s (enc r) s) (hr : ∀ r, rsOK (enc r) = true) (hk : ∀ r, kf r → Q (enc r)) : ok o kf → ∃ rs, rsOK rs = true ∧ FE P f as s rs s ∧ Q rs :=
  fun ⟨r, h, k⟩ => ⟨enc r, hr r, hf r h, hk r k⟩
theorem call_to_g {β : Type} {g : Bool} {z : β} {o : Option β} {kf : β → Prop} {f : FuncId} {as : Option (List AV)} {as' : List AV} {s : Store} {enc : β → List AV} {Q : List AV → Prop}
    (ha : as = some as') (hf : ∀ r, o = some r → FE P f as' s (enc r) s) (hr : ∀ r, rsOK (enc r) = true) (hk : ∀ r, kf r → Q (enc r)) :
    ok (whenB g z o) kf → ∃ rs, rsOK rs = true ∧ (g = true → ∃ as', as = some as' ∧ FE P f as' s rs s) ∧ Q rs := fun h => by
  rw [ok_when] at h
  obtain ⟨r, h1, _, k⟩ := h
  exact ⟨enc r, hr r, fun hg => ⟨as', ha, hf r (h1 hg)⟩, hk r k⟩

/-- As ok: where ways meet it stays whole. -/
def okj {α : Type} (o : Option α) (K : α → Prop) : Prop := ok o K
/-- As bnd: where ways meet. -/
def jn {α β : Type} (o : Option α) (f : α → Option β) : Option β := bnd o f
@[go_sem] theorem ok_jn {α β : Type} (K : α → Prop) (o : Option β) (f : β → Option α) : ok (jn o f) K = okj o (fun b => ok (f b) K) := ok_bnd ..
/-- Where ways meet. -/
theorem join_to {X : Type} {M : Option X} {kf : X → Prop} {live : List (Nat × Bool)} {a b : IC} {Q : Exit → St → Prop} {σ : St} (enc : X → St)
    (ha : ∀ J : St → Prop, ok M (fun x => J (enc x)) → cwp P a (joinK live J Q) σ) (hb : ∀ x, kf x → cwp P b Q (enc x)) : okj M kf → cwp P (.join live a b) Q σ := fun ⟨x, h, k⟩ =>
  ⟨fun τ => ∃ x, τ = enc x ∧ kf x, ha _ ⟨x, h, x, rfl, k⟩, fun _ ⟨x, e, k⟩ => e ▸ hb x k⟩

theorem iterN_zero {S O : Type} {body : S → Option (S ⊕ O)} {s : S} {K : O → Prop} : ¬ ok (iterN body 0 s) K := fun ⟨_, h, _⟩ => by cases h
theorem iterN_succ {S O : Type} {body : S → Option (S ⊕ O)} {n : Nat} {s : S} {K : O → Prop} (h : ok (iterN body (n + 1) s) K) : ok (body s) (caseS (fun t => ok (iterN body n t) K) K) := by
  obtain ⟨o, h, k⟩ := h
  unfold iterN at h
  cases hb : body s with
  | none => rw [hb] at h; cases h
  | some x =>
    rw [hb] at h
    cases x with
    | inl t => exact ⟨_, rfl, ⟨o, h, k⟩⟩
    | inr o' => cases h; exact ⟨_, rfl, k⟩

theorem loopK_join {live : List (Nat × Bool)} {I : St → Prop} {μ : St → Nat} {m : Nat} {Q : Exit → St → Prop} : loopK live I μ m Q = joinK live (fun ρ => I ρ ∧ μ ρ < m) Q := by
  funext x ρ; cases x <;> rfl

/-- A loop. -/
theorem iter_to {S O : Type} {body : S → Option (S ⊕ O)} {s0 : S} {kf : O → Prop} {live : List (Nat × Bool)} {b : IC} {Q : Exit → St → Prop} {σ : St} (enc : S → St)
    (h0 : σ.keepV live = enc s0)
    (hb : ∀ (J : St → Prop) (s : S), ok (body s) (caseS (fun t => J (enc t)) kf) → cwp P b (joinK live J Q) (enc s)) : ok (iter body s0) kf → cwp P (.loop live b) Q σ := by
  intro h
  have hmin : ∀ τ, (∃ m s, τ = enc s ∧ ok (iterN body m s) kf) → ∃ m, (∃ s, τ = enc s ∧ ok (iterN body m s) kf) ∧ ∀ k, k < m → ¬ ∃ s, τ = enc s ∧ ok (iterN body k s) kf := by
    rintro τ ⟨m, s, h⟩
    induction m using Nat.strongRecOn generalizing s with
    | _ m ih =>
      by_cases hk : ∃ k, k < m ∧ ∃ s, τ = enc s ∧ ok (iterN body k s) kf
      · obtain ⟨k, hk, s', h'⟩ := hk
        exact ih k hk s' h'
      · exact ⟨m, ⟨s, h⟩, fun k hk' hs => hk ⟨k, hk', hs⟩⟩
  have hμ : ∃ μ : St → Nat, ∀ τ, (∃ m s, τ = enc s ∧ ok (iterN body m s) kf) → (∃ s, τ = enc s ∧ ok (iterN body (μ τ) s) kf) ∧ ∀ k, k < μ τ → ¬ ∃ s, τ = enc s ∧ ok (iterN body k s) kf := by
    exact ⟨fun τ => Classical.epsilon fun m => (∃ s, τ = enc s ∧ ok (iterN body m s) kf) ∧ ∀ k, k < m → ¬ ∃ s, τ = enc s ∧ ok (iterN body k s) kf, fun τ hτ => Classical.epsilon_spec (hmin τ hτ)⟩
  obtain ⟨μ, hμ⟩ := hμ
  refine ⟨fun τ => ∃ m s, τ = enc s ∧ ok (iterN body m s) kf, μ, ?_, ?_⟩
  · exact ⟨_, s0, h0, h⟩
  · intro τ hτ
    obtain ⟨⟨s, e, hs⟩, _⟩ := hμ τ hτ
    generalize hm : μ τ = m at hs
    cases m with
    | zero => exact (iterN_zero hs).elim
    | succ m =>
      subst e
      rw [loopK_join]
      obtain ⟨x, hx, k⟩ := iterN_succ hs
      refine hb _ s ⟨x, hx, ?_⟩
      cases x with
      | inr o => exact k
      | inl t =>
        refine ⟨⟨m, t, rfl, k⟩, ?_⟩
        have h2 := (hμ (enc t) ⟨m, t, rfl, k⟩).2
        rcases Nat.lt_or_ge m (μ (enc t)) with hlt | hge
        · exact (h2 m hlt ⟨t, rfl, k⟩).elim
        · omega

/-- Where ways meet, and others lead out. -/
def bndS {X Y α : Type} (M : Option (X ⊕ Y)) (F : X → Option α) (G : Y → Option α) : Option α := match M with
  | some (.inl x) => F x
  | some (.inr y) => G y
  | none => none
@[go_sem] theorem ok_bndS {X Y α : Type} (M : Option (X ⊕ Y)) (F : X → Option α) (G : Y → Option α) (K : α → Prop) : ok (bndS M F G) K = ok M (caseS (fun x => ok (F x) K) (fun y => ok (G y) K)) := by
  cases M with
  | none => simp [bndS, ok]
  | some x => cases x <;> simp [bndS, ok, caseS]
def jnS {X Y α : Type} (M : Option (X ⊕ Y)) (F : X → Option α) (G : Y → Option α) : Option α := bndS M F G
@[go_sem] theorem ok_jnS {X Y α : Type} (M : Option (X ⊕ Y)) (F : X → Option α) (G : Y → Option α) (K : α → Prop) : ok (jnS M F G) K = okj M (caseS (fun x => ok (F x) K) (fun y => ok (G y) K)) := ok_bndS ..
theorem join_toS {X Y : Type} {M : Option (X ⊕ Y)} {kf : X → Prop} {kr : Y → Prop} {live : List (Nat × Bool)} {a b : IC} {Q : Exit → St → Prop} {σ : St} (enc : X → St)
    (ha : ∀ J : St → Prop, ok M (caseS (fun x => J (enc x)) kr) → cwp P a (joinK live J Q) σ) (hb : ∀ x, kf x → cwp P b Q (enc x)) : okj M (caseS kf kr) → cwp P (.join live a b) Q σ := fun ⟨x, h, k⟩ => by
  refine ⟨fun τ => ∃ x, τ = enc x ∧ kf x, ha _ ⟨x, h, ?_⟩, fun _ ⟨x, e, k⟩ => e ▸ hb x k⟩
  cases x with
  | inl x => exact ⟨x, rfl, k⟩
  | inr y => exact k

def appO {α : Type} : Option (List α) → Option (List α) → Option (List α)
  | some a, some b => some (a ++ b)
  | _, _ => none
@[go_sem] theorem appO_some {α : Type} (a b : List α) : appO (some a) (some b) = some (a ++ b) := rfl
@[go_sem] theorem byteOf_u8 (c : UInt8) : byteOf (.int .u8 c.toNat) = some c := by
  unfold byteOf
  have := c.toNat_lt
  simp only [Int.natCast_nonneg, true_and, Int.toNat_natCast]
  rw [if_pos (by omega)]
  simp
@[go_sem] theorem bytesOf_nil : bytesOf [] = some [] := rfl
@[go_sem] theorem bytesOf_cons (a : AV) (l : List AV) : bytesOf (a :: l) = consO (byteOf a) (bytesOf l) := rfl
@[go_sem] theorem bytesOf_append (a : List AV) : ∀ b, bytesOf (a ++ b) = appO (bytesOf a) (bytesOf b) := by
  induction a with
  | nil => intro b; cases h : bytesOf b <;> simp [bytesOf, appO, h]
  | cons x a ih =>
    intro b
    rw [List.cons_append, bytesOf_cons, bytesOf_cons, ih b]
    cases byteOf x <;> cases bytesOf a <;> cases bytesOf b <;> rfl
@[go_sem] theorem bytesOf_flat : ∀ l : List UInt8, bytesOf (flat l) = some l
  | [] => rfl
  | c :: l => by
    rw [flat_cons]
    show consO (byteOf (.int .u8 c.toNat)) (bytesOf (flat l)) = _
    rw [byteOf_u8, bytesOf_flat l]; rfl
@[go_sem] theorem map_flat (l : List UInt8) : (l.map fun c => AV.int .u8 c.toNat) = flat l := by
  induction l with
  | nil => rfl
  | cons a l ih => rw [List.map_cons, ih]; rfl

def w64 (n : Int) : Int := IntKind.i64.wrap n
def u8w (n : Int) : UInt8 := UInt8.ofNat (IntKind.u8.wrap n).toNat
def u32w (n : Int) : UInt32 := UInt32.ofNat (IntKind.u32.wrap n).toNat
def u64w (n : Int) : UInt64 := UInt64.ofNat (IntKind.u64.wrap n).toNat
@[go_sem] theorem wrap_w64 (n : Int) : wrapI .i64 n = w64 n := rfl
theorem wrapU (k : IntKind) (n : Int) (hk : k.signed = false) : k.wrap n = n % (2 ^ k.bits : Int) := by
  unfold IntKind.wrap
  simp [hk]
@[go_sem] theorem wrap_u8 (n : Int) : wrapI .u8 n = (u8w n).toNat := by
  show IntKind.u8.wrap n = ((UInt8.ofNat (IntKind.u8.wrap n).toNat).toNat : Int)
  rw [wrapU _ _ rfl, UInt8.toNat_ofNat']
  have : (2 ^ IntKind.u8.bits : Int) = 256 := by decide
  rw [this]
  omega
@[go_sem] theorem wrap_u32 (n : Int) : wrapI .u32 n = (u32w n).toNat := by
  show IntKind.u32.wrap n = ((UInt32.ofNat (IntKind.u32.wrap n).toNat).toNat : Int)
  rw [wrapU _ _ rfl, UInt32.toNat_ofNat']
  have : (2 ^ IntKind.u32.bits : Int) = 4294967296 := by decide
  rw [this]
  omega
@[go_sem] theorem wrap_u64 (n : Int) : wrapI .u64 n = (u64w n).toNat := by
  show IntKind.u64.wrap n = ((UInt64.ofNat (IntKind.u64.wrap n).toNat).toNat : Int)
  rw [wrapU _ _ rfl, UInt64.toNat_ofNat']
  have : (2 ^ IntKind.u64.bits : Int) = 18446744073709551616 := by decide
  rw [this]
  omega
def shlI (k : IntKind) (a b : Int) : Int := a * 2 ^ (min b.toNat k.bits)
def shrI (k : IntKind) (a b : Int) : Int := a.fdiv (2 ^ (min b.toNat k.bits))
def andI (k : IntKind) (a b : Int) : Int := (BitVec.ofInt k.bits a &&& BitVec.ofInt k.bits b).toNat
def orI (k : IntKind) (a b : Int) : Int := (BitVec.ofInt k.bits a ||| BitVec.ofInt k.bits b).toNat
def xorI (k : IntKind) (a b : Int) : Int := (BitVec.ofInt k.bits a ^^^ BitVec.ofInt k.bits b).toNat
def andNotI (k : IntKind) (a b : Int) : Int := (BitVec.ofInt k.bits a &&& ~~~BitVec.ofInt k.bits b).toNat
theorem shl_eq (k : IntKind) (a b : Int) : a * 2 ^ (min b.toNat k.bits) = shlI k a b := rfl
@[go_sem] theorem binI_shl (k k' : IntKind) (a b : Int) : binI .shl k k' a b = .prt (0 ≤ b) (.int k (wrapI k (shlI k a b))) := rfl
@[go_sem] theorem binI_shr (k k' : IntKind) (a b : Int) : binI .shr k k' a b = .prt (0 ≤ b) (.int k (shrI k a b)) := rfl
@[go_sem] theorem binI_and (k k' : IntKind) (a b : Int) : binI .and k k' a b = kk k k' (.tot (.int k (wrapI k (andI k a b)))) := rfl
@[go_sem] theorem binI_or (k k' : IntKind) (a b : Int) : binI .or k k' a b = kk k k' (.tot (.int k (wrapI k (orI k a b)))) := rfl
@[go_sem] theorem binI_xor (k k' : IntKind) (a b : Int) : binI .xor k k' a b = kk k k' (.tot (.int k (wrapI k (xorI k a b)))) := rfl
@[go_sem] theorem binI_andNot (k k' : IntKind) (a b : Int) : binI .andNot k k' a b = kk k k' (.tot (.int k (wrapI k (andNotI k a b)))) := rfl
@[go_sem] theorem lit_nonneg (n : Nat) : ((0 : Int) ≤ @OfNat.ofNat Int n instOfNat) = True := eq_true (Int.natCast_nonneg n)
@[go_sem] theorem lit_ne (n : Nat) : ((@OfNat.ofNat Int (n + 1) instOfNat) ≠ 0) = True := eq_true (by show ((n + 1 : Nat) : Int) ≠ 0; omega)
@[go_sem] theorem getD_ix (l : List UInt8) (k : Int) : l.getD k.toNat 0 = ix l k := rfl
@[go_sem] theorem part_of (l : List UInt8) (lo hi : Int) : (l.drop lo.toNat).take (hi - lo).toNat = part l lo hi := rfl
attribute [go_sem] List.length_append true_or or_true eq_self_iff_true imp_self Bool.cond_true_left Bool.cond_false_right and_self and_true

/-- Operations, in short. -/
def mv (d x : Nat) : IOper := ⟨some d, .mov false (.t x), none⟩
def mt (d x : Nat) : IOper := ⟨some d, .mov true (.t x), none⟩
def mvg (d x t : Nat) (w : Bool) : IOper := ⟨some d, .mov false (.t x), some (t, w)⟩
def mtg (d x t : Nat) (w : Bool) : IOper := ⟨some d, .mov true (.t x), some (t, w)⟩
def i1 (d : Nat) (o : IOp) : IOper := ⟨some d, o, none⟩
def i1g (d t : Nat) (w : Bool) (o : IOp) : IOper := ⟨some d, o, some (t, w)⟩
def i0 (o : IOp) : IOper := ⟨none, o, none⟩
def i0g (t : Nat) (w : Bool) (o : IOp) : IOper := ⟨none, o, some (t, w)⟩
attribute [go_sem] mv mt mvg mtg i1 i1g i0 i0g
@[go_sem] theorem sub_cons (a : AV) (l : List AV) (off n : Nat) : AB.sub (a :: l) off n = ((a :: l).drop off).take n := rfl
attribute [go_sem] flat_part flat_div
@[go_sem] theorem lpReg_when (σ : St) (b : Bool) (a : AV) (d : Option Nat) : lpReg σ (.when b a) d = lpReg σ a d := by
  rw [lpReg]
end Go.AB
