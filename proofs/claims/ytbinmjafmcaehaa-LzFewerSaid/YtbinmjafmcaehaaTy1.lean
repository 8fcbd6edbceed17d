/- The typed layer, part 1: types as cells, functions that may stop, loops. -/
import Derived.Test.YtbinmjafmcaehaaAb23
import Derived.Test.YtbinmjafmcaehaaAb3
namespace Go.AB
open Go

theorem views_append (a b : List AV) : views (a ++ b) = views a ++ views b := by simp [views]
theorem views_flatten : ∀ l : List (List AV), (∀ x ∈ l, views x = x) → views l.flatten = l.flatten
  | [], _ => rfl
  | a :: l, h => by rw [List.flatten_cons, views_append, h a List.mem_cons_self, views_flatten l fun x hx => h x (List.mem_cons_of_mem _ hx)]

class Enc (α : Type) where
  w : Nat
  cells : α → List AV
  zero : α
  pos : 0 < w
  len : ∀ x, (cells x).length = w
  vw : ∀ x, views (cells x) = cells x

/-- A string. -/
structure Str where
  b : List UInt8
  deriving DecidableEq, Inhabited

section
variable {α : Type} [Enc α]
/-- A row of values as cells. -/
def flat (l : List α) : List AV := (l.map Enc.cells).flatten
def ix (l : List α) (i : Int) : α := l.getD i.toNat Enc.zero

theorem flat_len : ∀ l : List α, (flat l).length = l.length * Enc.w α
  | [] => by simp [flat]
  | a :: l => by
    have := flat_len l
    simp only [flat, List.map_cons, List.flatten_cons, List.length_append, Enc.len] at this ⊢
    rw [this, List.length_cons, Nat.add_mul, Nat.one_mul, Nat.add_comm]
@[go_sem] theorem flat_nil : flat ([] : List α) = [] := rfl
@[go_sem] theorem flat_cons (a : α) (l : List α) : flat (a :: l) = Enc.cells a ++ flat l := rfl
@[go_sem] theorem flat_append (a b : List α) : flat (a ++ b) = flat a ++ flat b := by simp [flat]
@[go_sem] theorem flat_views (l : List α) : views (flat l) = flat l := views_flatten _ fun x hx => by
  obtain ⟨y, _, rfl⟩ := List.mem_map.1 hx
  exact Enc.vw y
theorem flat_drop (l : List α) : ∀ k, (flat l).drop (k * Enc.w α) = flat (l.drop k) := by
  induction l with
  | nil => intro k; simp [flat]
  | cons a l ih => intro k; cases k with
    | zero => simp
    | succ k =>
      rw [flat_cons, List.drop_succ_cons, ← ih k, Nat.succ_mul, Nat.add_comm, ← List.drop_drop]
      congr 1
      rw [← Enc.len a, List.drop_left]
theorem flat_take (l : List α) : ∀ k, (flat l).take (k * Enc.w α) = flat (l.take k) := by
  induction l with
  | nil => intro k; simp [flat]
  | cons a l ih => intro k; cases k with
    | zero => simp [flat_nil]
    | succ k =>
      rw [flat_cons, List.take_succ_cons, flat_cons, ← ih k, Nat.succ_mul, Nat.add_comm, List.take_append]
      rw [Enc.len a, List.take_of_length_le (by rw [Enc.len]; omega)]
      congr 2
      omega
theorem flat_sub (l : List α) (n lo m : Nat) (hn : n = Enc.w α) : AB.sub (flat l) (lo * n) (m * n) = flat ((l.drop lo).take m) := by
  subst hn
  unfold AB.sub
  rw [flat_drop, flat_take]
theorem flat_pad (z : List AV) (n : Nat) (l : List α) (i : Int) (hz : z = Enc.cells (Enc.zero : α)) (hn : n = Enc.w α) : pad z (views (AB.sub (flat l) (i.toNat * n) n)) = Enc.cells (ix l i) := by
  subst hn
  have h1 : AB.sub (flat l) (i.toNat * Enc.w α) (Enc.w α) = flat ((l.drop i.toNat).take 1) := by
    have := flat_sub l (Enc.w α) i.toNat 1 rfl
    rwa [Nat.one_mul] at this
  rw [h1, flat_views]
  unfold pad ix
  rcases Nat.lt_or_ge i.toNat l.length with hlt | hge
  · rw [List.drop_eq_getElem_cons hlt, List.take_succ_cons, List.take_zero, flat_cons, flat_nil, List.append_nil, hz, Enc.len, Enc.len, beq_self_eq_true]
    simp [List.getD, List.getElem?_eq_getElem hlt]
  · rw [List.drop_eq_nil_of_le hge, List.take_nil, flat_nil, hz, Enc.len]
    have : (([] : List AV).length == Enc.w α) = false := by
      have := Enc.pos (α := α)
      simp; omega
    rw [this]
    simp [List.getD, List.getElem?_eq_none hge]
/-- A row's part. -/
def part (l : List α) (lo hi : Int) : List α := (l.drop lo.toNat).take (hi - lo).toNat
theorem flat_part (n : Nat) (l : List α) (lo hi : Int) (hn : n = Enc.w α) : AB.sub (flat l) (lo.toNat * n) ((hi - lo).toNat * n) = flat (part l lo hi) := flat_sub l n _ _ hn
theorem flat_div (n : Nat) (l : List α) (hn : n = Enc.w α) : (flat l).length / n = l.length := by
  subst hn
  rw [flat_len]; exact Nat.mul_div_cancel _ Enc.pos
end

instance : Enc Bool := ⟨1, fun b => [.bool b], false, Nat.one_pos, fun _ => rfl, fun _ => rfl⟩
instance : Enc Int := ⟨1, fun n => [.int .i64 n], 0, Nat.one_pos, fun _ => rfl, fun _ => rfl⟩
instance : Enc UInt8 := ⟨1, fun n => [.int .u8 n.toNat], 0, Nat.one_pos, fun _ => rfl, fun _ => rfl⟩
instance : Enc UInt32 := ⟨1, fun n => [.int .u32 n.toNat], 0, Nat.one_pos, fun _ => rfl, fun _ => rfl⟩
instance : Enc UInt64 := ⟨1, fun n => [.int .u64 n.toNat], 0, Nat.one_pos, fun _ => rfl, fun _ => rfl⟩
instance : Enc Str := ⟨1, fun s => [.str s.b], ⟨[]⟩, Nat.one_pos, fun _ => rfl, fun _ => rfl⟩
instance {α : Type} [Enc α] : Enc (List α) := ⟨1, fun l => [.sl false (Enc.w α) l.length (flat l)], [], Nat.one_pos, fun _ => rfl, fun _ => rfl⟩
@[go_sem] theorem cells_bool (x : Bool) : Enc.cells x = [.bool x] := rfl
@[go_sem] theorem cells_int (x : Int) : Enc.cells x = [.int .i64 x] := rfl
@[go_sem] theorem cells_u8 (x : UInt8) : Enc.cells x = [.int .u8 x.toNat] := rfl
@[go_sem] theorem cells_u32 (x : UInt32) : Enc.cells x = [.int .u32 x.toNat] := rfl
@[go_sem] theorem cells_u64 (x : UInt64) : Enc.cells x = [.int .u64 x.toNat] := rfl
@[go_sem] theorem cells_str (x : Str) : Enc.cells x = [.str x.b] := rfl
@[go_sem] theorem cells_list {α : Type} [Enc α] (x : List α) : Enc.cells x = [.sl false (Enc.w α) x.length (flat x)] := rfl
@[go_sem] theorem w_bool : Enc.w Bool = 1 := rfl
@[go_sem] theorem w_int : Enc.w Int = 1 := rfl
@[go_sem] theorem w_u8 : Enc.w UInt8 = 1 := rfl
@[go_sem] theorem w_u32 : Enc.w UInt32 = 1 := rfl
@[go_sem] theorem w_u64 : Enc.w UInt64 = 1 := rfl
@[go_sem] theorem w_str : Enc.w Str = 1 := rfl
@[go_sem] theorem w_list {α : Type} [Enc α] : Enc.w (List α) = 1 := rfl
@[go_sem] theorem pad_bool (l : List Bool) (i : Int) : pad [.bool false] (views (AB.sub (flat l) (i.toNat * 1) 1)) = [.bool (ix l i)] := flat_pad _ 1 l i rfl rfl
@[go_sem] theorem pad_int (l : List Int) (i : Int) : pad [.int .i64 0] (views (AB.sub (flat l) (i.toNat * 1) 1)) = [.int .i64 (ix l i)] := flat_pad _ 1 l i rfl rfl
@[go_sem] theorem pad_u8 (l : List UInt8) (i : Int) : pad [.int .u8 0] (views (AB.sub (flat l) (i.toNat * 1) 1)) = [.int .u8 (ix l i).toNat] := flat_pad _ 1 l i rfl rfl
@[go_sem] theorem pad_u32 (l : List UInt32) (i : Int) : pad [.int .u32 0] (views (AB.sub (flat l) (i.toNat * 1) 1)) = [.int .u32 (ix l i).toNat] := flat_pad _ 1 l i rfl rfl
@[go_sem] theorem pad_str (l : List Str) (i : Int) : pad [.str []] (views (AB.sub (flat l) (i.toNat * 1) 1)) = [.str (ix l i).b] := flat_pad _ 1 l i rfl rfl
@[go_sem] theorem pad_list {α : Type} [Enc α] (l : List (List α)) (i : Int) (n : Nat) (hn : n = Enc.w α) : pad [.sl false n 0 []] (views (AB.sub (flat l) (i.toNat * 1) 1)) = [.sl false (Enc.w α) (ix l i).length (flat (ix l i))] := by
  subst hn
  exact flat_pad _ 1 l i rfl rfl
end Go.AB
