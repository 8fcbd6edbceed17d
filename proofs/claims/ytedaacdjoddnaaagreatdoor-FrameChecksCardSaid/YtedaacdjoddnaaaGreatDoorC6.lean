/- A part of the proof: Ir, Pure1, Na, Nd, Ib, Lm, At, Bd, Be, Lx, Val1, Ovl, Val2, Val3, Lt, Ka. -/
import Derived.Test.YtedaacdjoddnaaaGreatDoorC4
import Derived.Laws.RangeAny
import Derived.LoopTactic
import Derived.Lib.Bytealg
import Derived.Laws.Externs
import Derived.Lib.Walk
import Derived.Lib.BytesEntry
import Derived.Lib.UnsafeStr
set_option linter.unusedSimpArgs false
set_option linter.unusedVariables false
section
namespace Go.AB
open Go
def fa (d o x : Nat) : IOper := ⟨some d, .fieldAddr o (.t x), none⟩
def ld (d n x : Nat) : IOper := ⟨some d, .load n false (.t x), none⟩
def lm (d n x : Nat) : IOper := ⟨some d, .load n true (.t x), none⟩
def mkk (d : Nat) (a : AV) : IOper := ⟨some d, .mov false (.c a), none⟩
def mi (d : Nat) (n : Int) : IOper := ⟨some d, .mov false (.c (.int .i64 n)), none⟩
def c1 (d f x : Nat) : IOper := ⟨some d, .call f [.t x], none⟩
def c2 (d f x y : Nat) : IOper := ⟨some d, .call f [.t x, .t y], none⟩
def c3 (d f x y z : Nat) : IOper := ⟨some d, .call f [.t x, .t y, .t z], none⟩
def ex (d x k : Nat) : IOper := ⟨some d, .extract (.t x) k, none⟩
def st (n p v : Nat) : IOper := ⟨none, .store n (.t p) (.t v), none⟩
def bn (d : Nat) (o : BinOp) (x : Nat) (n : Int) : IOper := ⟨some d, .bin o (.t x) (.c (.int .i64 n)), none⟩
def bu (d : Nat) (o : BinOp) (x : Nat) (n : Int) : IOper := ⟨some d, .bin o (.t x) (.c (.int .u8 n)), none⟩
def bt (d : Nat) (o : BinOp) (x y : Nat) : IOper := ⟨some d, .bin o (.t x) (.t y), none⟩
def nc (d x : Nat) : IOper := ⟨some d, .nilCheck (.t x), none⟩
def le (d k x : Nat) : IOper := ⟨some d, .len k (.t x), none⟩
def no (d x : Nat) : IOper := ⟨some d, .un .not (.t x), none⟩
def pf (d x y : Nat) : IOper := ⟨some d, .pick (.t x) (.t y) (.c (.bool false)), none⟩
def po (d x y : Nat) : IOper := ⟨some d, .pick (.t x) (.c (.bool true)) (.t y), none⟩
def fg (d t : Nat) (w : Bool) (o x : Nat) : IOper := ⟨some d, .fieldAddr o (.t x), some (t, w)⟩
def lg (d t : Nat) (w : Bool) (n x : Nat) : IOper := ⟨some d, .load n false (.t x), some (t, w)⟩
def ia (d : Nat) (z : List AV) (x y : Nat) : IOper := ⟨some d, .indexAddr z (.t x) (.t y), none⟩
attribute [go_sem] fa ld lm mkk mi c1 c2 c3 ex st bn bu bt nc le no pf po fg lg ia
end Go.AB
end

section
namespace Go.AB
open Go
theorem iterN_inv {S O : Type} {body : S → Option (S ⊕ O)} (I : S → Prop) (μ : S → Nat) (Post : O → Prop)
  (step : ∀ s, I s → ∃ x, body s = some x ∧ (match x with | .inl t => I t ∧ μ t < μ s | .inr o => Post o)) : ∀ (n : Nat) (s : S), I s → μ s < n → ∃ o, iterN body n s = some o ∧ Post o
 | 0, _, _, h => absurd h (Nat.not_lt_zero _)
 | n + 1, s, hi, hn => by
  obtain ⟨x, hx, h⟩ := step s hi
  cases x with
  | inl t =>
   obtain ⟨o, h1, h2⟩ := iterN_inv I μ Post step n t h.1 (by have := h.2; omega)
   exact ⟨o, by unfold iterN; rw [hx]; exact h1, h2⟩
  | inr o => exact ⟨o, by unfold iterN; rw [hx], h⟩
theorem iter_inv {S O : Type} {body : S → Option (S ⊕ O)} {s0 : S} (I : S → Prop) (μ : S → Nat) (Post : O → Prop) (h0 : I s0) (hμ : μ s0 < 18446744073709551616)
  (step : ∀ s, I s → ∃ x, body s = some x ∧ (match x with | .inl t => I t ∧ μ t < μ s | .inr o => Post o)) : ∃ o, iter body s0 = some o ∧ Post o :=
 iterN_inv I μ Post step _ s0 h0 hμ
theorem w64_id {n : Int} (h1 : -9223372036854775808 ≤ n) (h2 : n ≤ 9223372036854775807) : w64 n = n := by
 unfold w64 IntKind.wrap
 have : (2 ^ IntKind.i64.bits : Int) = 18446744073709551616 := by decide
 have h3 : (2 ^ (IntKind.i64.bits - 1) : Int) = 9223372036854775808 := by decide
 rw [this, h3]
 simp only [IntKind.signed, Bool.true_and, decide_eq_true_eq]
 split <;> omega
@[simp] theorem bnd_some {α β : Type} (a : α) (f : α → Option β) : bnd (some a) f = f a := rfl
theorem need_pos {α : Type} {c : Prop} [Decidable c] (h : c) (o : Option α) : need c o = o := if_pos h
@[simp] theorem whenB_t {α : Type} (z : α) (o : Option α) : whenB true z o = o := rfl
@[simp] theorem whenB_f {α : Type} (z : α) (o : Option α) : whenB false z o = some z := rfl
theorem ix_at {α : Type} [Enc α] {l : List α} {i : Int} (h : i.toNat < l.length) : ix l i = l[i.toNat] := by
 unfold ix; rw [List.getD_eq_getElem?_getD, List.getElem?_eq_getElem h]; rfl
theorem ix_nat {α : Type} [Enc α] {l : List α} {k : Nat} (h : k < l.length) : ix l (k : Int) = l[k] := by
 rw [ix_at (by simpa using h)]; simp
end Go.AB
end

section
set_option maxRecDepth 4000
namespace Go.AB
open Go
open Go.RowKit
theorem strArgs2 {w : World} {R : Nat → Nat} {a b : AV} {vs : Array Value} (h : ArgsR w R [a, b] vs) : ∃ v0 v1, vs = #[v0, v1] ∧ VR w R a v0 ∧ VR w R b v1 := by
 obtain ⟨hl, hr⟩ := h
 obtain ⟨l⟩ := vs
 match l, hl with
 | [v0, v1], _ => exact ⟨v0, v1, rfl, hr 0 _ _ rfl rfl, hr 1 _ _ rfl rfl⟩
 | [], hl => simp at hl
 | [_], hl => simp at hl
 | _ :: _ :: _ :: _, hl => simp at hl
theorem strArgs1 {w : World} {R : Nat → Nat} {a : AV} {vs : Array Value} (h : ArgsR w R [a] vs) : ∃ v0, vs = #[v0] ∧ VR w R a v0 := by
 obtain ⟨hl, hr⟩ := h
 obtain ⟨l⟩ := vs
 match l, hl with
 | [v0], _ => exact ⟨v0, rfl, hr 0 _ _ rfl rfl⟩
 | [], hl => simp at hl
 | _ :: _ :: _, hl => simp at hl
theorem indexByte_calls (a : ByteArray) (c : Int) (w : World) : Calls Go.Proofs.Tryz.prog 106 #[.string a, .int .u8 c] w fun e w' => e = .returned (.int .i64 (Lib.indexByte a.data.toList c.toNat.toUInt8)) ∧ w' = w := by
 have mixed := mix
 have t3 : Go.Proofs.Tryz.prog.underlying 3 = some (.int .i64) := by kernel_rfl
 have u3 := run_underlying t3
 go_enter Go.Proofs.Tryz.func106, (show Go.Proofs.Tryz.f106.ntmps = 8 from rfl)
 go_wp2
 rw [run_callFunc_extern Go.Proofs.Tryz.func140 (by kernel_rfl) (by kernel_rfl) (by kernel_rfl) (e := Extern.BytealgIndexByte.indexByte) (by kernel_rfl), Lib.run_indexByteString]
 simp only [Result.andThen]
 rw [Oper.upon_value]
 go_wp2
 go_ret
 exact ⟨rfl, rfl⟩
def stringslite_IndexByte (s : Str) (c : UInt8) : Option Int := some (Lib.indexByte s.b c)
theorem stringslite_IndexByte_fn {a : Str} {c : UInt8} {s : Store} {Q : List AV → Store → Prop} (h : ok (stringslite_IndexByte a c) fun r => Q [.int .i64 r] s) : FN Go.Proofs.Tryz.prog 106 [.str a.b, .int .u8 c.toNat] s Q := by
 unfold stringslite_IndexByte at h
 rw [ok_some] at h
 intro G w vs h1 h2 h3 h4
 obtain ⟨v0, v1, rfl, k0, k1⟩ := strArgs2 h4
 rw [VR.inv_str k0, VR.inv_int k1]
 refine (indexByte_calls _ _ w).mono fun e w' ⟨he, hw⟩ => ?_
 subst hw
 refine ⟨_, _, s, G, he, h, h1, h3, ⟨?_, trivial⟩, Pres.refl G w'⟩
 have e : ((c.toNat : Int).toNat).toUInt8 = c := by simp
 rw [e]
 exact .int _ _
theorem stringslite_IndexByte_fe {a : Str} {c : UInt8} {s : Store} {r : Int} (h : stringslite_IndexByte a c = some r) : FE Go.Proofs.Tryz.prog 106 [.str a.b, .int .u8 c.toNat] s [.int .i64 r] s := stringslite_IndexByte_fn ⟨r, h, rfl, rfl⟩
theorem index1_calls (a : ByteArray) (c : UInt8) (w : World) : Calls Go.Proofs.Tryz.prog 269 #[.string a, .string ⟨#[c]⟩] w fun e w' => e = .returned (.int .i64 (Lib.indexByte a.data.toList c)) ∧ w' = w := by
  have mixed := mix
  have t3 : Go.Proofs.Tryz.prog.underlying 3 = some (.int .i64) := by kernel_rfl
  have u3 := run_underlying t3
  have t9 : Go.Proofs.Tryz.prog.underlying 9 = some .string := by kernel_rfl
  have u9 := run_underlying t9
  go_enter Go.Proofs.Tryz.func269, (show Go.Proofs.Tryz.f269.ntmps = 143 from rfl)
  go_wp2
  · rename_i hc
    go_ret
    refine ⟨?_, rfl⟩
    have e : a.toList = [c] := (eq_of_beq hc).symm
    have e2 : a.data.toList = [c] := by
      obtain ⟨⟨l⟩⟩ := a
      simpa using e
    rw [e2]
    simp [Lib.indexByte]
  · rw [run_callFunc_extern Go.Proofs.Tryz.func140 (by kernel_rfl) (by kernel_rfl) (by kernel_rfl) (e := Extern.BytealgIndexByte.indexByte) (by kernel_rfl), Lib.run_indexByteString]
    simp only [Result.andThen]
    rw [Oper.upon_value]
    go_wp2
    go_ret
    exact ⟨rfl, rfl⟩
def stringslite_Index (s sub : Str) : Option Int := need (sub.b.length = 1) (some (Lib.indexByte s.b (ix sub.b 0)))
theorem stringslite_Index_fn {a b : Str} {s : Store} {Q : List AV → Store → Prop} (h : ok (stringslite_Index a b) fun r => Q [.int .i64 r] s) : FN Go.Proofs.Tryz.prog 269 [.str a.b, .str b.b] s Q := by
 unfold stringslite_Index at h
 rw [ok_need, ok_some] at h
 obtain ⟨hl, h⟩ := h
 obtain ⟨c, hc⟩ : ∃ c, b.b = [c] := List.length_eq_one_iff.1 hl
 rw [hc] at h ⊢
 intro G w vs h1 h2 h3 h4
 obtain ⟨v0, v1, rfl, k0, k1⟩ := strArgs2 h4
 rw [VR.inv_str k0, VR.inv_str k1]
 refine (index1_calls _ c w).mono fun e w' ⟨he, hw⟩ => ?_
 subst hw
 exact ⟨_, _, s, G, he, h, h1, h3, ⟨.int _ _, trivial⟩, Pres.refl G w'⟩
theorem stringslite_Index_fe {a b : Str} {s : Store} {r : Int} (h : stringslite_Index a b = some r) : FE Go.Proofs.Tryz.prog 269 [.str a.b, .str b.b] s [.int .i64 r] s := stringslite_Index_fn ⟨r, h, rfl, rfl⟩
def isDig (c : UInt8) : Bool := decide (48 ≤ c.toNat) && decide (c.toNat ≤ 57)
theorem iter_pres {G : Gh} {w : World} {s : ByteArray} {pos : Nat} (h : GoodW G w) : GoodW (G.upd w.heap.size .none 0) (w.iter s pos) ∧ Pres G w (G.upd w.heap.size .none 0) (w.iter s pos) ∧ (∀ {st : Store}, StoreR G w st → StoreR (G.upd w.heap.size .none 0) (w.iter s pos) st) := by
  obtain ⟨q1, q2, q3⟩ := alloc_facts h (.stringIter s pos) .none 0
  refine ⟨q1, q2, fun hs => hs.mono h q2 (fun b hb => ?_) (fun b c j _ hc => ?_)⟩
  · obtain ⟨k1, k2, k3⟩ := q3 b (by rw [hb]; simp)
    exact ⟨k1.trans hb, k2, k3⟩
  · obtain ⟨k1, k2, k3⟩ := q3 c (by rw [hc]; simp)
    exact ⟨k1.trans hc, k2, k3⟩
theorem drop_at (s : ByteArray) (pos : Nat) (h : pos < s.size) : s.data.toList.drop pos = (s[pos]'h) :: s.data.toList.drop (pos + 1) := by
 have hl : pos < s.data.toList.length := by simpa using h
 rw [List.drop_eq_getElem_cons hl]
 rfl
theorem all_calls (s : ByteArray) (w : World) {r : Bool} (hr : s.data.toList.all isDig = r) : Calls Go.Proofs.Tryz.prog 216 #[.string s] w fun e w' => e = .returned (.bool r) ∧ ∃ pos, w' = w.iter s pos := by
  have mixed := mix
  have t3 : Go.Proofs.Tryz.prog.underlying 3 = some (.int .i64) := by kernel_rfl
  have u3 := run_underlying t3
  have t9 : Go.Proofs.Tryz.prog.underlying 9 = some .string := by kernel_rfl
  have u9 := run_underlying t9
  go_enter Go.Proofs.Tryz.func216, (show Go.Proofs.Tryz.f216.ntmps = 13 from rfl)
  go_wp2
  go_loopw [] (fun w' => ∃ pos, w' = w.iter s pos ∧ (s.data.toList.drop pos).all isDig = r) (fun w' => s.size - w'.iterPos w.heap.size)
  case atStart => exact ⟨0, rfl, hr⟩
  case round =>
    obtain ⟨pos, rfl, hall⟩ := hrel
    by_cases hp : pos < s.size
    · rw [drop_at s pos hp, List.all_cons] at hall
      by_cases ha : (s[pos]'hp).toNat < 128
      · have hnx : ∀ ty, (Instr.next (.pointer (some ⟨w.heap.size, 0, none⟩)) true ty).run Go.Proofs.Tryz.prog (w.iter s pos) = _ := fun ty => run_next_ascii w s pos ty hp ha
        generalize (s[pos]'hp) = c at hnx hall ha
        go_wp2
        all_goals first
          | (go_ret
             have hc : isDig c = false := by unfold isDig; simp; omega
             rw [hc] at hall
             rw [← hall]
             exact ⟨rfl, _, rfl⟩)
          | (refine ⟨⟨pos + 1, rfl, ?_⟩, by omega⟩
             have hc : isDig c = true := by unfold isDig; simp; omega
             rw [hc, Bool.true_and] at hall
             exact hall)
      · have hnx : ∀ ty, (Instr.next (.pointer (some ⟨w.heap.size, 0, none⟩)) true ty).run Go.Proofs.Tryz.prog (w.iter s pos) = _ := fun ty => run_next_any w s pos ty hp
        have hd := (decode_high s pos hp (by omega)).1
        have hd2 := decode_le s pos
        have hc : isDig (s[pos]'hp) = false := by unfold isDig; simp; omega
        rw [hc] at hall
        generalize (Utf8.decode s pos).1 = d at hnx hd hd2
        go_wp2
        all_goals first
          | omega
          | (go_ret
             rw [← hall]
             exact ⟨rfl, _, rfl⟩)
          | (exfalso; omega)
    · have hnx : ∀ ty, (Instr.next (.pointer (some ⟨w.heap.size, 0, none⟩)) true ty).run Go.Proofs.Tryz.prog (w.iter s pos) = _ := fun ty => run_next_end w s pos ty hp
      rw [List.drop_eq_nil_of_le (by simpa using (by omega : s.size ≤ pos))] at hall
      go_wp2
      go_ret
      rw [← hall]
      exact ⟨rfl, _, rfl⟩
def num_all (s : Str) : Option Bool := some (s.b.all isDig)
theorem num_all_fn {a : Str} {s : Store} {Q : List AV → Store → Prop} (h : ok (num_all a) fun r => Q [.bool r] s) : FN Go.Proofs.Tryz.prog 216 [.str a.b] s Q := by
 unfold num_all at h
 rw [ok_some] at h
 intro G w vs h1 h2 h3 h4
 obtain ⟨v0, rfl, k0⟩ := strArgs1 h4
 rw [VR.inv_str k0]
 refine (all_calls ⟨a.b.toArray⟩ w (r := a.b.all isDig) (by simp)).mono fun e w' ⟨he, pos, hw⟩ => ?_
 subst hw
 obtain ⟨q1, q2, q3⟩ := iter_pres (s := ⟨a.b.toArray⟩) (pos := pos) h1
 exact ⟨_, _, s, _, he, h, q1, q3 h3, ⟨.bool _, trivial⟩, q2⟩
theorem num_all_fe {a : Str} {s : Store} {r : Bool} (h : num_all a = some r) : FE Go.Proofs.Tryz.prog 216 [.str a.b] s [.bool r] s := num_all_fn ⟨r, h, rfl, rfl⟩
end Go.AB
end

section
set_option maxRecDepth 4000
namespace Go.AB
open Go Go.RowKit
def digStep (st : Int × Bool) (c : UInt8) : Int × Bool :=
 let over := st.2 || decide (st.1 > (2147483647 - ((c.toNat : Int) - 48)).tdiv 10)
 (if over then st.1 else 10 * st.1 + ((c.toNat : Int) - 48), over)
def digL : List UInt8 → Int × Bool → Int × Int
 | [], st => if st.2 then (0, 5) else (st.1, 0)
 | c :: l, st => if isDig c then digL l (digStep st c) else (0, 11)
def DigRel (r : Int × Int) (l : List UInt8) (v4 v5 : Value) : Prop := ∃ (n : Int) (over : Bool), v4 = .int .i64 n ∧ v5 = .bool over ∧ 0 ≤ n ∧ n ≤ 2147483647 ∧ digL l (n, over) = r
theorem DigRel.step {r : Int × Int} {c : UInt8} {l : List UInt8} {n m : Int} {over o : Bool} (hd : 48 ≤ (c.toNat : Int) ∧ (c.toNat : Int) ≤ 57) (h0 : 0 ≤ n) (h1 : n ≤ 2147483647) (h : digL l (digStep (n, over) c) = r)
    (ho : o = (over || decide (n > (2147483647 - ((c.toNat : Int) - 48)).tdiv 10))) (hm : m = if o then n else 10 * n + ((c.toNat : Int) - 48)) : DigRel r l (.int .i64 m) (.bool o) := by
  subst ho; subst hm
  refine ⟨_, _, rfl, rfl, ?_, ?_, h⟩
  · split <;> omega
  · split
    · omega
    · rename_i hh
      have hh : ¬ n > (2147483647 - ((c.toNat : Int) - 48)).tdiv 10 := by simp at hh; omega
      rw [Int.tdiv_eq_ediv_of_nonneg (by omega)] at hh
      omega
theorem dig_over {c : Int} (hd : 48 ≤ c ∧ c ≤ 57) : ((((2147483647 - (((c - 48 + 2147483648) % 4294967296 - 2147483648 + 9223372036854775808) % 18446744073709551616 - 9223372036854775808) + 9223372036854775808) % 18446744073709551616 - 9223372036854775808).tdiv 10 + 9223372036854775808) % 18446744073709551616 - 9223372036854775808) = (2147483647 - (c - 48)).tdiv 10 := by
 have e1 : ((c - 48 + 2147483648) % 4294967296 - 2147483648 + 9223372036854775808) % 18446744073709551616 - 9223372036854775808 = c - 48 := by omega
 rw [e1]
 have e2 : (2147483647 - (c - 48) + 9223372036854775808) % 18446744073709551616 - 9223372036854775808 = 2147483647 - (c - 48) := by omega
 rw [e2, Int.tdiv_eq_ediv_of_nonneg (by omega)]
 omega
theorem dig_next {c n : Int} (hd : 48 ≤ c ∧ c ≤ 57) (h0 : 0 ≤ n) (h1 : n ≤ 2147483647) : ((10 * n + 9223372036854775808) % 18446744073709551616 - 9223372036854775808 + (((c - 48 + 2147483648) % 4294967296 - 2147483648 + 9223372036854775808) % 18446744073709551616 - 9223372036854775808) + 9223372036854775808) % 18446744073709551616 - 9223372036854775808 = 10 * n + (c - 48) := by omega
set_option maxHeartbeats 40000000 in
theorem digits_calls (s : ByteArray) (w : World) {r : Int × Int} (hr : (if s.data.toList = [] then (0, 11) else digL s.data.toList (0, false)) = r) : Calls Go.Proofs.Tryz.prog 217 #[.string s] w fun e w' => e = .returned (.tuple #[.int .i64 r.1, .int .i64 r.2]) ∧ (w' = w ∨ ∃ pos, w' = w.iter s pos) := by
  have mixed := mix
  have t3 : Go.Proofs.Tryz.prog.underlying 3 = some (.int .i64) := by kernel_rfl
  have u3 := run_underlying t3
  have t9 : Go.Proofs.Tryz.prog.underlying 9 = some .string := by kernel_rfl
  have u9 := run_underlying t9
  go_enter Go.Proofs.Tryz.func217, (show Go.Proofs.Tryz.f217.ntmps = 36 from rfl)
  go_wp2
  · have hq := ‹s.toList.isEmpty = true›
    have hc : s.data.toList = [] := by
      obtain ⟨⟨l⟩⟩ := s
      simpa using hq
    rw [if_pos hc] at hr
    subst hr
    go_ret2
    exact ⟨rfl, .inl rfl⟩
  have hq := ‹s.toList.isEmpty = false›
  have hc : s.data.toList ≠ [] := by
    obtain ⟨⟨l⟩⟩ := s
    simpa using hq
  rw [if_neg hc] at hr
  go_loopw [4, 5] (fun v4 v5 w' => ∃ (pos : Nat), w' = w.iter s pos ∧ DigRel r (s.data.toList.drop pos) v4 v5) (fun _ _ w' => s.size - w'.iterPos w.heap.size)
  case atStart => exact ⟨0, rfl, 0, false, rfl, rfl, by omega, by omega, hr⟩
  case round =>
    obtain ⟨pos, rfl, n, over, rfl, rfl, hn0, hn1, hall⟩ := hrel
    by_cases hp : pos < s.size
    · rw [drop_at s pos hp, digL] at hall
      by_cases ha : (s[pos]'hp).toNat < 128
      · have hnx : ∀ ty, (Instr.next (.pointer (some ⟨w.heap.size, 0, none⟩)) true ty).run Go.Proofs.Tryz.prog (w.iter s pos) = _ := fun ty => run_next_ascii w s pos ty hp ha
        generalize (s[pos]'hp) = c at hnx hall ha
        by_cases hdig : 48 ≤ (c.toNat : Int) ∧ (c.toNat : Int) ≤ 57
        · have hc : isDig c = true := by unfold isDig; simp; omega
          rw [if_pos hc] at hall
          cases over <;> go_wp2
          all_goals first
            | (exfalso; omega)
            | (refine ⟨⟨_, _, _, _, ⟨pos + 1, rfl, ?_⟩, rfl, rfl, rfl, rfl⟩, by omega⟩
               first
                 | exact DigRel.step hdig hn0 hn1 hall rfl rfl
                 | (have hx := ‹(!decide (_ < n)) = true›
                    simp only [Bool.not_eq_true'] at hx
                    refine DigRel.step hdig hn0 hn1 hall (by rw [dig_over hdig]; rfl) ?_
                    rw [hx]
                    exact dig_next hdig hn0 hn1)
                 | (have hx := ‹(!decide (_ < n)) = false›
                    simp only [Bool.not_eq_false'] at hx
                    refine DigRel.step hdig hn0 hn1 hall (by rw [dig_over hdig]; rfl) ?_
                    rw [hx]
                    rfl))
        · have hc : isDig c = false := by unfold isDig; simp; omega
          rw [hc] at hall
          have hall : ((0 : Int), (11 : Int)) = r := hall
          subst hall
          cases over <;> go_wp2
          all_goals first
            | (exfalso; omega)
            | (go_ret2
               exact ⟨rfl, .inr ⟨_, rfl⟩⟩)
      · have hnx : ∀ ty, (Instr.next (.pointer (some ⟨w.heap.size, 0, none⟩)) true ty).run Go.Proofs.Tryz.prog (w.iter s pos) = _ := fun ty => run_next_any w s pos ty hp
        have hd := (decode_high s pos hp (by omega)).1
        have hd2 := decode_le s pos
        have hc : isDig (s[pos]'hp) = false := by unfold isDig; simp; omega
        rw [hc] at hall
        have hall : ((0 : Int), (11 : Int)) = r := hall
        subst hall
        generalize (Utf8.decode s pos).1 = d at hnx hd hd2
        cases over <;> go_wp2
        all_goals first
          | (exfalso; omega)
          | (go_ret2
             exact ⟨rfl, .inr ⟨_, rfl⟩⟩)
    · have hnx : ∀ ty, (Instr.next (.pointer (some ⟨w.heap.size, 0, none⟩)) true ty).run Go.Proofs.Tryz.prog (w.iter s pos) = _ := fun ty => run_next_end w s pos ty hp
      rw [List.drop_eq_nil_of_le (by simpa using (by omega : s.size ≤ pos))] at hall
      cases over <;> go_wp2
      all_goals (go_ret2; subst hall; exact ⟨rfl, .inr ⟨_, rfl⟩⟩)
def num_Digits (s : Str) : Option (Int × Int) := some (if s.b = [] then (0, 11) else digL s.b (0, false))
theorem num_Digits_fn {a : Str} {s : Store} {Q : List AV → Store → Prop} (h : ok (num_Digits a) fun r => Q [.int .i64 r.1, .int .i64 r.2] s) : FN Go.Proofs.Tryz.prog 217 [.str a.b] s Q := by
  unfold num_Digits at h
  rw [ok_some] at h
  intro G w vs h1 h2 h3 h4
  obtain ⟨v0, rfl, k0⟩ := strArgs1 h4
  rw [VR.inv_str k0]
  refine (digits_calls ⟨a.b.toArray⟩ w (r := if a.b = [] then (0, 11) else digL a.b (0, false)) (by simp)).mono fun e w' ⟨he, hw⟩ => ?_
  generalize (if a.b = [] then ((0 : Int), (11 : Int)) else digL a.b (0, false)) = r at h he
  have hres : ∀ (G' : Gh) (w' : World), ResR G' w' [.int .i64 r.1, .int .i64 r.2] (.tuple #[.int .i64 r.1, .int .i64 r.2]) := fun G' w' => ⟨_, rfl, rfl, fun j x y hx hy => by
    match j, hx, hy with
    | 0, hx, hy => injection hx with hx; injection hy with hy; subst hx; subst hy; exact ⟨.int _ _, trivial⟩
    | 1, hx, hy => injection hx with hx; injection hy with hy; subst hx; subst hy; exact ⟨.int _ _, trivial⟩
    | _ + 2, hx, _ => simp at hx⟩
  rcases hw with hw | ⟨pos, hw⟩
  · subst hw
    exact ⟨_, _, s, G, he, h, h1, h3, hres _ _, Pres.refl G w'⟩
  · subst hw
    obtain ⟨q1, q2, q3⟩ := iter_pres (s := ⟨a.b.toArray⟩) (pos := pos) h1
    exact ⟨_, _, s, _, he, h, q1, q3 h3, hres _ _, q2⟩
theorem num_Digits_fe {a : Str} {s : Store} {r : Int × Int} (h : num_Digits a = some r) : FE Go.Proofs.Tryz.prog 217 [.str a.b] s [.int .i64 r.1, .int .i64 r.2] s := num_Digits_fn ⟨r, h, rfl, rfl⟩
end Go.AB
end

section
set_option maxRecDepth 4000
namespace Go.AB
open Go
open Go.RowKit
theorem run_ibEmpty {P : Program} (a : Addr) (cap : Nat) (c : Int) (w : World) : (Extern.BytealgIndexByte.indexByte #[.slice (some a) 0 cap, .int .u8 c]).run P w = .ok (.int .i64 (-1)) w := rfl
theorem bytesIB_calls {v : Value} {cv r : Int} {w : World} (hr : (Extern.BytealgIndexByte.indexByte #[v, .int .u8 cv]).run Go.Proofs.Tryz.prog w = .ok (.int .i64 r) w) : Calls Go.Proofs.Tryz.prog 177 #[v, .int .u8 cv] w fun e w' => e = .returned (.int .i64 r) ∧ w' = w := by
 have mixed := mix
 go_enter Go.Proofs.Tryz.func177, (show Go.Proofs.Tryz.f177.ntmps = 8 from rfl)
 go_wp2
 rw [run_callFunc_extern Go.Proofs.Tryz.func220 (by kernel_rfl) (by kernel_rfl) (by kernel_rfl) (e := Extern.BytealgIndexByte.indexByte) (by kernel_rfl), hr]
 simp only [Result.andThen]
 rw [Oper.upon_value]
 go_wp2
 go_ret
 exact ⟨rfl, rfl⟩
theorem bytesOf_u8 : ∀ l : List UInt8, Lib.bytesOf (l.map fun c => (c.toNat : Int)) = l
 | [] => rfl
 | c :: l => by
  have h := bytesOf_u8 l
  unfold Lib.bytesOf at h ⊢
  rw [List.map_cons, List.map_cons, h]
  congr 1
  simp
def bytes_IndexByte (s : List UInt8) (c : UInt8) : Option Int := some (Lib.indexByte s c)
theorem bytes_IndexByte_fn {a : List UInt8} {c : UInt8} {s : Store} {Q : List AV → Store → Prop} (h : ok (bytes_IndexByte a c) fun r => Q [.int .i64 r] s) : FN Go.Proofs.Tryz.prog 177 [.sl false 1 a.length (flat a), .int .u8 c.toNat] s Q := by
  unfold bytes_IndexByte at h
  rw [ok_some] at h
  intro G w vs h1 h2 h3 h4
  obtain ⟨v0, v1, rfl, k0, k1⟩ := strArgs2 h4
  rw [VR.inv_int k1]
  have ec : ((c.toNat : Int).toNat).toUInt8 = c := by simp
  have fin : ∀ (e : Ending) (w' : World) (r : Int), r = Lib.indexByte a c → e = .returned (.int .i64 r) ∧ w' = w → ∃ v rs s' G', e = .returned v ∧ Q rs s' ∧ GoodW G' w' ∧ StoreR G' w' s' ∧ ResR G' w' rs v ∧ Pres G w G' w' := by
    rintro e w' r hr ⟨he, hw⟩
    subst hw; subst hr
    exact ⟨_, _, s, G, he, h, h1, h3, ⟨.int _ _, trivial⟩, Pres.refl G w'⟩
  have e0 : ∀ b : List UInt8, a = [] → Lib.indexByte a c = -1 := fun _ e => by subst e; rfl
  rcases VR.inv_sl k0 with ⟨(e | ⟨_, ad, cap, e⟩), h0, _⟩ | ⟨b, off, cap, e, hcl, hRb, hcap, hat⟩
  · subst e
    have ha : a = [] := List.eq_nil_of_length_eq_zero h0
    exact (bytesIB_calls (Lib.run_indexByteNil w 0 0 _)).mono fun e w' hh => fin e w' _ (e0 a ha).symm hh
  · subst e
    have ha : a = [] := List.eq_nil_of_length_eq_zero h0
    exact (bytesIB_calls (run_ibEmpty ad cap _ w)).mono fun e w' hh => fin e w' _ (e0 a ha).symm hh
  · subst e
    obtain ⟨u, u1, u2, _⟩ := hat
    have hcells : ∀ i, i < a.length → w.cell? ⟨b, off + i, none⟩ = some (.int .u8 ((a.map fun c => (c.toNat : Int)).getD i 0)) := by
      intro i hi
      have hfj : (flat a)[i]? = some (.int .u8 (a[i]).toNat) := by
        have hm : ∀ l : List UInt8, flat l = l.map fun c => AV.int .u8 c.toNat := fun l => by
          induction l with
          | nil => rfl
          | cons c l ih => rw [List.map_cons, ← ih]; rfl
        rw [hm, List.getElem?_map, List.getElem?_eq_getElem hi]; rfl
      rw [u1 i _ hfj, VR.inv_int (u2 i _ hfj)]
      simp [List.getD_eq_getElem?_getD, hi]
    refine (bytesIB_calls (Lib.run_indexByteSlice w b off a.length cap (a.map fun c => (c.toNat : Int)) (by simp) hcells _)).mono fun e w' hh => fin e w' _ ?_ hh
    rw [bytesOf_u8, ec]
theorem bytes_IndexByte_fe {a : List UInt8} {c : UInt8} {s : Store} {r : Int} (h : bytes_IndexByte a c = some r) : FE Go.Proofs.Tryz.prog 177 [.sl false 1 a.length (flat a), .int .u8 c.toNat] s [.int .i64 r] s := bytes_IndexByte_fn ⟨r, h, rfl, rfl⟩
end Go.AB
end

section
namespace Go.AB
open Go
@[go_sem] theorem lt_part1 (l : List UInt8) (hi : Int) : (l.drop 1).take (hi - 1).toNat = part l 1 hi := rfl
end Go.AB
end

section
namespace Go.AB
open Go
def Wi (pre cs post : List AV) : List AV := pre ++ cs ++ post
@[go_sem] theorem Wi_nilc (c : AV) (cs r : List AV) : Wi [] (c :: cs) r = c :: Wi [] cs r := rfl
@[go_sem] theorem Wi_nil (r : List AV) : Wi [] [] r = r := rfl
@[go_sem] theorem Wi_post (p cs r : List AV) (a : AV) : Wi p cs (a :: r) = Wi p (cs ++ [a]) r := by simp [Wi]
theorem Wi_len (p cs r : List AV) : (Wi p cs r).length = p.length + cs.length + r.length := by simp [Wi]; omega
@[go_sem] theorem Wi_le (p cs r : List AV) (k n : Nat) (h : k + n ≤ cs.length) : (p.length + k + n ≤ (Wi p cs r).length) = True := by
 rw [Wi_len]; exact eq_true (by omega)
@[go_sem] theorem sub_Wi (p cs r : List AV) (k n : Nat) (h : k + n ≤ cs.length) : AB.sub (Wi p cs r) (p.length + k) n = AB.sub cs k n := by
 unfold AB.sub Wi
 rw [List.append_assoc, ← List.drop_drop, List.drop_left, List.drop_append_of_le_length (by omega), List.take_append_of_le_length (by rw [List.length_drop]; omega)]
theorem setAt_Wi' (p cs r : List AV) (k : Nat) (news : List AV) (h : k + news.length ≤ cs.length) : setAt (Wi p cs r) (p.length + k) news = Wi p (setAt cs k news) r := by
 unfold setAt Wi
 have e1 : (p ++ cs ++ r).take (p.length + k) = p ++ cs.take k := by
  rw [List.append_assoc, List.take_append, List.take_of_length_le (by omega), Nat.add_sub_cancel_left, List.take_append_of_le_length (by omega)]
 have e2 : (p ++ cs ++ r).drop (p.length + k + news.length) = cs.drop (k + news.length) ++ r := by
  rw [List.append_assoc, Nat.add_assoc, ← List.drop_drop, List.drop_left, List.drop_append_of_le_length h]
 rw [e1, e2]
 simp [List.append_assoc]
@[go_sem] theorem setAt_Wi (p cs r : List AV) (k : Nat) (news : List AV) (h : k + news.length ≤ cs.length) : setAt (Wi p cs r) (p.length + k) news = Wi p (setAt cs k news) r := setAt_Wi' p cs r k news h
theorem get_Wi' (p cs r : List AV) (k : Nat) (h : k < cs.length) : (Wi p cs r)[p.length + k]? = cs[k]? := by
 unfold Wi
 rw [List.append_assoc, List.getElem?_append_right (by omega), Nat.add_sub_cancel_left, List.getElem?_append_left h]
@[go_sem] theorem get_Wi (p cs r : List AV) (k : Nat) (h : k < cs.length) : (Wi p cs r)[p.length + k]? = cs[k]? := get_Wi' p cs r k h
@[go_sem] theorem get_Wi0 (p cs r : List AV) (h : 0 < cs.length) : (Wi p cs r)[p.length]? = cs[0]? := get_Wi' p cs r 0 h
theorem takeC_Wi' (p cs r : List AV) (k : Nat) (K : List AV → AV → Prop) (h : k < cs.length) : takeC (p.length + k) (Wi p cs r) K = takeC k cs fun cs' a => K (Wi p cs' r) a := by
  unfold takeC
  rw [get_Wi' p cs r k h]
  cases cs[k]? with
  | none => rfl
  | some a =>
    cases a <;> try rfl
    · rename_i o sz n ds
      show K (setAt (Wi p cs r) (p.length + k) [.sl false sz n ds]) _ = K (Wi p (setAt cs k [.sl false sz n ds]) r) _
      rw [setAt_Wi' p cs r k [.sl false sz n ds] (show k + 1 ≤ cs.length by omega)]
    · rename_i tb m es
      show K (setAt (Wi p cs r) (p.length + k) [.sl false 1 m es]) _ = K (Wi p (setAt cs k [.sl false 1 m es]) r) _
      rw [setAt_Wi' p cs r k [.sl false 1 m es] (show k + 1 ≤ cs.length by omega)]
@[go_sem] theorem takeC_Wi (p cs r : List AV) (k : Nat) (K : List AV → AV → Prop) (h : k < cs.length) : takeC (p.length + k) (Wi p cs r) K = takeC k cs fun cs' a => K (Wi p cs' r) a := takeC_Wi' p cs r k K h
attribute [go_sem] Nat.add_zero
@[go_sem] theorem part_zero {α : Type} (l : List α) (hi : Int) : part l 0 hi = l.take hi.toNat := by
 unfold part
 rw [Int.toNat_zero, List.drop_zero, Int.sub_zero]
@[go_sem] theorem le_add_6 (n : Nat) : ((6 : Int) ≤ ((n + 6 : Nat) : Int)) = True := eq_true (by omega)
@[go_sem] theorem getD_0 (l : List UInt8) : l.getD 0 0 = ix l 0 := rfl
@[go_sem] theorem ge_0 : ((0 : Int) ≤ 0) = True := eq_true (by decide)
@[go_sem] theorem ge_1 : ((0 : Int) ≤ 1) = True := eq_true (by decide)
@[go_sem] theorem ge_6 : ((0 : Int) ≤ 6) = True := eq_true (by decide)
structure Bld where
 used : Bool
 own : Bool
 buf : Str
def Bld.zero : Bld := ⟨false, true, ⟨[]⟩⟩
def bldA (T B o : Nat) (b : Bld) : AV := bif b.used then .ref B o else .btag T
def bldB (b : Bld) : AV := bif b.own then .bb 5 b.buf.b.length (flat b.buf.b) else .sl false 1 b.buf.b.length (flat b.buf.b)
@[go_sem] theorem bldA_zero (T B o : Nat) : bldA T B o Bld.zero = .btag T := rfl
@[go_sem] theorem bldB_zero : bldB Bld.zero = .bb 5 0 [] := rfl
@[go_sem] theorem eqIV_tup (ne : Bool) (vs : List AV) : eqIV ne (.tup vs) = .no := rfl
structure NilI where
instance : Enc NilI := ⟨1, fun _ => [.nili], .mk, by decide, fun _ => rfl, fun _ => rfl⟩
end Go.AB
end

section
set_option maxRecDepth 4000
namespace Go.AB
open Go
attribute [-go_sem] Nat.add_zero ge_0 part_zero
def ir_Builder_copyCheck : IC :=
 (.seq (.reg none [mv 2 0,
 i1 3 (.nilCheck (.t 2)),
 i1 4 (.fieldAddr 0 (.t 3)),
 i1 5 (.load 1 false (.t 4)),
 i1 6 (.eqP false (.t 5) (.c (.nilp)))] [0, 6])
 (.cond (.t 6) (.reg none [mv 7 0,
 mv 8 0,
 i1 9 (.cvtU (.t 8)),
 i1 10 (.callX 142 (.t 9)),
 i1 11 (.cvtF 71 (.t 10)),
 i1 12 (.nilCheck (.t 7)),
 i1 13 (.fieldAddr 0 (.t 12)),
 i0 (.store 1 (.t 13) (.t 11))] [])
 (.seq (.reg none [mv 14 0,
 i1 15 (.nilCheck (.t 14)),
 i1 16 (.fieldAddr 0 (.t 15)),
 i1 17 (.load 1 false (.t 16)),
 mv 18 0,
 i1 19 (.eqP true (.t 17) (.t 18))] [19])
 (.cond (.t 19) .dead
 .skip))))
def res_Builder_copyCheck : List IRes := []
theorem is_Builder_copyCheck : fnIs Go.Proofs.Tryz.prog 112 20 res_Builder_copyCheck ir_Builder_copyCheck = true := by kernel_rfl
def ir_Builder_WriteByte : IC :=
 (.seq (.reg none [i1 4 (.mov false (.c (.nili)))] [0, 1])
 (.seq (.reg none [mv 5 0,
 i1 6 (.call 112 [(.t 5)])] [0, 1])
 (.seq (.reg none [mv 7 0,
 mv 8 0,
 i1 9 (.nilCheck (.t 8)),
 i1 10 (.fieldAddr 1 (.t 9)),
 i1 11 (.loadD (.t 10)),
 mv 12 1,
 i1 13 (.buildSl 1 1 [.int .u8 0] [(0, 1, (.t 12))]),
 i1 14 (.appendB 5 (.t 11) (.t 13)),
 i1 15 (.nilCheck (.t 7)),
 i1 16 (.fieldAddr 1 (.t 15)),
 i0 (.store 1 (.t 16) (.t 14))] [])
 (.seq (.reg none [i1 4 (.mov false (.c (.nili)))] [4])
 .ret))))
def res_Builder_WriteByte : List IRes := [⟨4, true, none⟩]
theorem is_Builder_WriteByte : fnIs Go.Proofs.Tryz.prog 79 17 res_Builder_WriteByte ir_Builder_WriteByte = true := by kernel_rfl
def ir_Builder_WriteString : IC :=
 (.seq (.reg none [i1 4 (.mov false (.c (.int .i64 0))),
 i1 5 (.mov false (.c (.nili)))] [0, 1])
 (.seq (.reg none [mv 6 0,
 i1 7 (.call 112 [(.t 6)])] [0, 1])
 (.seq (.reg none [mv 8 0,
 mv 9 0,
 i1 10 (.nilCheck (.t 9)),
 i1 11 (.fieldAddr 1 (.t 10)),
 i1 12 (.loadD (.t 11)),
 mv 13 1,
 i1 14 (.appendB 5 (.t 12) (.t 13)),
 i1 15 (.nilCheck (.t 8)),
 i1 16 (.fieldAddr 1 (.t 15)),
 i0 (.store 1 (.t 16) (.t 14))] [1])
 (.seq (.reg none [mv 17 1,
 i1 18 (.len 1 (.t 17)),
 mv 4 18,
 i1 5 (.mov false (.c (.nili)))] [4, 5])
 .ret))))
def res_Builder_WriteString : List IRes := [⟨4, true, none⟩, ⟨5, true, none⟩]
theorem is_Builder_WriteString : fnIs Go.Proofs.Tryz.prog 75 19 res_Builder_WriteString ir_Builder_WriteString = true := by kernel_rfl
theorem noesc : idFn Go.Proofs.Tryz.prog 142 := fun x w => by
 rw [run_callFunc_extern Go.Proofs.Tryz.func142 (by kernel_rfl) (by kernel_rfl) (by kernel_rfl) (e := Extern.AbiNoEscape.same) (by kernel_rfl)]
 rfl
theorem set_self {s : Store} {B : Nat} {o : SO} (h : s B = some o) : s.set B o = s := by
  funext i
  unfold Store.set
  split
  · rename_i e; subst e; exact h.symm
  · rfl
theorem copyCheck_fn {b : Bld} {B T o : Nat} {pre post : List AV} {s : Store} {Q : List AV → Store → Prop} (hB : s B = some (.cells (Wi pre [bldA T B o b, bldB b] post))) (eB : pre.length = o)
  (lB : liesB Go.Proofs.Tryz.prog T (pre.length + 2 + post.length) o 71 = true) (hq : Q [] (s.set B (.cells (Wi pre [.ref B o, bldB b] post)))) : FN Go.Proofs.Tryz.prog 112 [.ref B o] s Q := by
 subst eB
 obtain ⟨u, ow, bf⟩ := b
 have hl : (Wi pre [bldA T B pre.length ⟨u, ow, bf⟩, bldB ⟨u, ow, bf⟩] post).length = pre.length + 2 + post.length := by rw [Wi_len]; rfl
 have ha : (Wi pre [bldA T B pre.length ⟨u, ow, bf⟩, bldB ⟨u, ow, bf⟩] post)[pre.length]? = some (bldA T B pre.length ⟨u, ow, bf⟩) := by rw [get_Wi0 _ _ _ (by simp)]; rfl
 refine FN.of (draw_ok mix) is_Builder_copyCheck rfl (Nat.le_of_ble_eq_true rfl) ?_
 rw [ir_Builder_copyCheck, res_Builder_copyCheck]
 have hB' := hB
 cases u with
 | true =>
  have e : bldA T B pre.length ⟨true, ow, bf⟩ = .ref B pre.length := rfl
  rw [e] at hB' hB
  rw [set_self hB] at hq
  simp -implicitDefEqProofs only [go_sem, start, startE, resVs, resV, resC, allV, retK, Nat.reduceBEq, Nat.reduceAdd, Nat.reduceMul, Nat.reduceLeDiff, Nat.reduceEqDiff, Nat.reduceBNe, Nat.ble_eq, UInt8.reduceToNat, UInt32.reduceToNat, hB']
  exact ⟨fun h => h.elim, fun _ _ => hq⟩
 | false =>
  have e : bldA T B pre.length ⟨false, ow, bf⟩ = .btag T := rfl
  rw [e] at hB' ha hl
  simp -implicitDefEqProofs only [go_sem, start, startE, resVs, resV, resC, allV, retK, Nat.reduceBEq, Nat.reduceAdd, Nat.reduceMul, Nat.reduceLeDiff, Nat.reduceEqDiff, Nat.reduceBNe, Nat.ble_eq, UInt8.reduceToNat, UInt32.reduceToNat, hB', set_set, set_same]
  refine ⟨fun _ => ⟨by rw [hl]; omega, noesc, T, ha, by rw [hl]; exact lB, hq⟩, fun h => (by cases h)⟩
def strings_Builder_WriteByte (b : Bld) (c : UInt8) : Option (NilI × Bld) :=
 need (b.own = true) <|
 need (b.buf.b.length + 1 ≤ room) <|
 some (NilI.mk, ⟨true, true, ⟨b.buf.b ++ [c]⟩⟩)
theorem strings_Builder_WriteByte_fn {b_0 : Bld} {c_1 : UInt8} {B0 : Nat} {preB0 postB0 : List AV} {oB0 TB0 : Nat} {s : Store} {Q : List AV → Store → Prop} (hB0 : s B0 = some (.cells (Wi preB0 [bldA TB0 B0 oB0 b_0, bldB b_0] postB0))) (eB0 : preB0.length = oB0) (lB0 : liesB Go.Proofs.Tryz.prog TB0 (preB0.length + 2 + postB0.length) oB0 71 = true) :
  ok (strings_Builder_WriteByte b_0 c_1) (fun r => Q [.nili] (s.set B0 (.cells (Wi preB0 [bldA TB0 B0 oB0 r.2, bldB r.2] postB0)))) → FN Go.Proofs.Tryz.prog 79 [.ref B0 oB0, .int .u8 c_1.toNat] s Q := by
 unfold strings_Builder_WriteByte
 rintro ⟨r, h1, h2⟩
 unfold need at h1
 split at h1 <;> try (cases h1; done)
 rename_i how
 split at h1 <;> try (cases h1; done)
 rename_i hrm
 injection h1 with h1
 subst h1
 subst eB0
 obtain ⟨u, ow, bf⟩ := b_0
 obtain rfl : ow = true := how
 refine FN.of (draw_ok mix) is_Builder_WriteByte rfl (Nat.le_of_ble_eq_true rfl) ?_
 rw [ir_Builder_WriteByte, res_Builder_WriteByte]
 simp -implicitDefEqProofs only [go_sem, start, startE, resVs, resV, resC, allV, retK, Nat.reduceBEq, Nat.reduceAdd, Nat.reduceMul, Nat.reduceLeDiff, Nat.reduceEqDiff, Nat.reduceBNe, Nat.ble_eq, UInt8.reduceToNat, UInt32.reduceToNat]
 refine copyCheck_fn hB0 rfl lB0 ?_
 have e1 : bldB ⟨u, true, bf⟩ = .bb 5 bf.b.length (flat bf.b) := rfl
 rw [e1]
 simp -implicitDefEqProofs only [go_sem, start, startE, resVs, resV, resC, allV, retK, Nat.reduceBEq, Nat.reduceAdd, Nat.reduceMul, Nat.reduceLeDiff, Nat.reduceEqDiff, Nat.reduceBNe, Nat.ble_eq, UInt8.reduceToNat, UInt32.reduceToNat, set_same, set_set]
 rw [takeC_Wi _ _ _ _ _ (by simp)]
 simp -implicitDefEqProofs only [go_sem, start, startE, resVs, resV, resC, allV, retK, Nat.reduceBEq, Nat.reduceAdd, Nat.reduceMul, Nat.reduceLeDiff, Nat.reduceEqDiff, Nat.reduceBNe, Nat.ble_eq, UInt8.reduceToNat, UInt32.reduceToNat, set_same, set_set]
 have e2 : bldB ⟨true, true, ⟨bf.b ++ [c_1]⟩⟩ = .bb 5 (bf.b.length + 1) (flat bf.b ++ [.int .u8 c_1.toNat]) := by
  show AV.bb 5 (bf.b ++ [c_1]).length (flat (bf.b ++ [c_1])) = _
  rw [flat_append, List.length_append]; rfl
 refine ⟨by rw [Nat.mul_one]; exact hrm, ?_⟩
 have h3 : Q [.nili] (s.set B0 (.cells (Wi preB0 [.ref B0 preB0.length, bldB ⟨true, true, ⟨bf.b ++ [c_1]⟩⟩] postB0))) := h2
 rw [e2] at h3
 exact h3
def strings_Builder_WriteString (b : Bld) (x : Str) : Option (Int × NilI × Bld) :=
 need (b.own = true) <|
 need (b.buf.b.length + x.b.length ≤ room) <|
 some ((x.b.length : Int), NilI.mk, ⟨true, true, ⟨b.buf.b ++ x.b⟩⟩)
theorem strings_Builder_WriteString_fn {b_0 : Bld} {s_1 : Str} {B0 : Nat} {preB0 postB0 : List AV} {oB0 TB0 : Nat} {s : Store} {Q : List AV → Store → Prop} (hB0 : s B0 = some (.cells (Wi preB0 [bldA TB0 B0 oB0 b_0, bldB b_0] postB0))) (eB0 : preB0.length = oB0) (lB0 : liesB Go.Proofs.Tryz.prog TB0 (preB0.length + 2 + postB0.length) oB0 71 = true) :
  ok (strings_Builder_WriteString b_0 s_1) (fun r => Q [.int .i64 r.1, .nili] (s.set B0 (.cells (Wi preB0 [bldA TB0 B0 oB0 r.2.2, bldB r.2.2] postB0)))) → FN Go.Proofs.Tryz.prog 75 [.ref B0 oB0, .str s_1.b] s Q := by
 unfold strings_Builder_WriteString
 rintro ⟨r, h1, h2⟩
 unfold need at h1
 split at h1 <;> try (cases h1; done)
 rename_i how
 split at h1 <;> try (cases h1; done)
 rename_i hrm
 injection h1 with h1
 subst h1
 subst eB0
 obtain ⟨u, ow, bf⟩ := b_0
 obtain rfl : ow = true := how
 refine FN.of (draw_ok mix) is_Builder_WriteString rfl (Nat.le_of_ble_eq_true rfl) ?_
 rw [ir_Builder_WriteString, res_Builder_WriteString]
 simp -implicitDefEqProofs only [go_sem, start, startE, resVs, resV, resC, allV, retK, Nat.reduceBEq, Nat.reduceAdd, Nat.reduceMul, Nat.reduceLeDiff, Nat.reduceEqDiff, Nat.reduceBNe, Nat.ble_eq, UInt8.reduceToNat, UInt32.reduceToNat]
 refine copyCheck_fn hB0 rfl lB0 ?_
 have e1 : bldB ⟨u, true, bf⟩ = .bb 5 bf.b.length (flat bf.b) := rfl
 rw [e1]
 simp -implicitDefEqProofs only [go_sem, start, startE, resVs, resV, resC, allV, retK, Nat.reduceBEq, Nat.reduceAdd, Nat.reduceMul, Nat.reduceLeDiff, Nat.reduceEqDiff, Nat.reduceBNe, Nat.ble_eq, UInt8.reduceToNat, UInt32.reduceToNat, set_same, set_set]
 rw [takeC_Wi _ _ _ _ _ (by simp)]
 simp -implicitDefEqProofs only [go_sem, start, startE, resVs, resV, resC, allV, retK, Nat.reduceBEq, Nat.reduceAdd, Nat.reduceMul, Nat.reduceLeDiff, Nat.reduceEqDiff, Nat.reduceBNe, Nat.ble_eq, UInt8.reduceToNat, UInt32.reduceToNat, set_same, set_set]
 have e2 : bldB ⟨true, true, ⟨bf.b ++ s_1.b⟩⟩ = .bb 5 (bf.b.length + s_1.b.length) (flat bf.b ++ flat s_1.b) := by
  show AV.bb 5 (bf.b ++ s_1.b).length (flat (bf.b ++ s_1.b)) = _
  rw [flat_append, List.length_append]
 refine ⟨by rw [Nat.mul_one]; exact hrm, ?_⟩
 have h3 : Q [.int .i64 s_1.b.length, .nili] (s.set B0 (.cells (Wi preB0 [.ref B0 preB0.length, bldB ⟨true, true, ⟨bf.b ++ s_1.b⟩⟩] postB0))) := h2
 rw [e2] at h3
 exact h3
def strings_Builder_String (b : Bld) : Option (Str × Bld) := need (b.own = true ∧ b.buf.b.length ≤ room) <| some (b.buf, ⟨b.used, false, b.buf⟩)
set_option maxHeartbeats 2000000 in
set_option maxRecDepth 100000 in
theorem String_run0 {w : World} {B o : Nat} (hc : w.cell? ⟨B, o + 1, none⟩ = some (.slice none 0 0)) :
  Calls Go.Proofs.Tryz.prog 45 #[.pointer (some ⟨B, o, none⟩)] w fun e w' => e = .returned (.string ⟨#[]⟩) ∧ w' = w.drew := by
 have hUS : (Builtin.unsafeString_ #[112, 3] 9 #[.pointer none, .int .i64 0]).run Go.Proofs.Tryz.prog w.drew = .ok (.string .empty) w.drew := Lib.run_unsafeString_none _ _ _ _ none
 have hSD : (Builtin.unsafeSliceData_ #[37] 112 #[.slice none 0 0]).run Go.Proofs.Tryz.prog w.drew = .ok (.pointer none) w.drew := Lib.run_unsafeSliceData_nil _ _ _ _ _
 have c1 : w.drew.cell? ⟨B, o + 1, none⟩ = some (.slice none 0 0) := hc
 have mixed := mix
 go_enter Go.Proofs.Tryz.func45, (show Go.Proofs.Tryz.f45.ntmps = 14 from rfl)
 go_wp2
 go_region
 all_goals (go_wp2; go_ret; exact ⟨rfl, rfl⟩)
set_option maxHeartbeats 2000000 in
set_option maxRecDepth 100000 in
theorem String_run1 {w : World} {B o g cap : Nat} {cur : Array Value} {fz : Nat × Nat} {l : List UInt8} (hc : w.cell? ⟨B, o + 1, none⟩ = some (.slice (some ⟨g, 0, none⟩) l.length cap)) (hg : w.heap[g]? = some (.cells cur 5 fz)) (h0 : l ≠ []) (hcap : cap ≠ 0) (hsz : l.length ≤ cur.size) (hm : l.length ≤ 9223372036854775807)
    (hcell : ∀ (j : Nat) (x : UInt8), l[j]? = some x → w.cell? ⟨g, j, none⟩ = some (.int .u8 x.toNat)) :
    Calls Go.Proofs.Tryz.prog 45 #[.pointer (some ⟨B, o, none⟩)] w fun e w' => e = .returned (.string ⟨l.toArray⟩) ∧ w' = w.drew.freeze ⟨g, 0, none⟩ l.length := by
  have hUS : (Builtin.unsafeString_ #[112, 3] 9 #[.pointer (some ⟨g, 0, none⟩), .int .i64 l.length]).run Go.Proofs.Tryz.prog w.drew = .ok (.string ⟨l.toArray⟩) (w.drew.freeze ⟨g, 0, none⟩ l.length) :=
    Lib.run_unsafeString_row w.drew 112 3 9 5 (by kernel_rfl) (by kernel_rfl) g cur.size (by have hg' : w.drew.heap[g]? = some (.cells cur 5 fz) := hg; simp [World.shape?, hg']) l h0 hsz hm (fun j x hj => by
      have := hcell j x hj
      simp only [Addr.add, Nat.zero_add]
      split
      · rename_i e; subst e; exact this
      · exact this)
  have hSD : (Builtin.unsafeSliceData_ #[37] 112 #[.slice (some ⟨g, 0, none⟩) l.length cap]).run Go.Proofs.Tryz.prog w.drew = .ok (.pointer (some ⟨g, 0, none⟩)) w.drew := Lib.run_unsafeSliceData_row _ _ _ _ _ _ hcap
  have c1 : w.drew.cell? ⟨B, o + 1, none⟩ = some (.slice (some ⟨g, 0, none⟩) l.length cap) := hc
  have mixed := mix
  clear hcell hc hm hsz hcap
  go_enter Go.Proofs.Tryz.func45, (show Go.Proofs.Tryz.f45.ntmps = 14 from rfl)
  go_wp2
  go_region
  all_goals (go_wp2; go_ret; exact ⟨rfl, rfl⟩)
end Go.AB
end

section
set_option maxRecDepth 4000
namespace Go.AB
open Go
theorem freeze_heap {w : World} {g n : Nat} {c : Array Value} {t : TypeId} {fz : Nat × Nat} (hg : w.heap[g]? = some (.cells c t fz)) :
    (∀ b, b ≠ g → (w.freeze ⟨g, 0, none⟩ n).heap[b]? = w.heap[b]?) ∧ (w.freeze ⟨g, 0, none⟩ n).heap.size = w.heap.size ∧ ∃ fz', (w.freeze ⟨g, 0, none⟩ n).heap[g]? = some (.cells c t fz') := by
  unfold World.freeze
  split
  · exact ⟨fun _ _ => rfl, rfl, fz, hg⟩
  · refine ⟨fun b hb => ?_, by simp, ?_⟩
    · simp only [Array.getElem?_modify]
      rw [if_neg (by omega)]
    · simp only [Array.getElem?_modify, if_true, hg, Option.map_some]
      exact ⟨_, rfl⟩
theorem freeze_cell {w : World} {g n : Nat} {c : Array Value} {t : TypeId} {fz : Nat × Nat} (hg : w.heap[g]? = some (.cells c t fz)) (b k : Nat) : (w.freeze ⟨g, 0, none⟩ n).cell? ⟨b, k, none⟩ = w.cell? ⟨b, k, none⟩ := by
  obtain ⟨h1, _, fz', h2⟩ := freeze_heap (n := n) hg
  by_cases hb : b = g
  · subst hb
    rw [cell_of_row _ h2, cell_of_row _ hg]
  · exact World.cell?_of_block (h1 b hb)
theorem str_step {G : Gh} {w : World} {s : Store} {B o n : Nat} {cs : List AV} {ds : List AV} (hg : GoodW G w) (hs : StoreR G w s) (hB : s B = some (.cells cs)) (ho : cs[o]? = some (.bb 5 n ds)) :
    StoreR (G.retag (.cell B o) .frame) w (s.set B (.cells (setAt cs o [.sl false 1 n ds]))) ∧ GoodW (G.retag (.cell B o) .frame) w ∧ Pres G w (G.retag (.cell B o) .frame) w := by
  have hne : ∀ b, G.O b ≠ .cell B o → (G.retag (.cell B o) .frame).O b = G.O b := fun b hb => by simp [hb]
  have hgood : GoodW (G.retag (.cell B o) .frame) w := ⟨fun b hb => by rw [hne b (by rw [hg.newO b hb]; simp), hg.newO b hb], hg.newR⟩
  have hpres : Pres G w (G.retag (.cell B o) .frame) w := ⟨rfl, rfl, rfl, Nat.le_refl _, Nat.le_refl _, fun _ _ => Nat.le_refl _, fun _ _ _ _ => rfl, fun _ _ _ => rfl, fun b _ hb => ⟨by rw [hne b (by rw [hb]; simp), hb], rfl⟩, fun b _ hb => ⟨by rw [hne b (by rw [hb]; simp), hb], rfl⟩⟩
  refine ⟨?_, hgood, hpres⟩
  obtain ⟨q2, q3, c, t, q4, q5, q6⟩ := hs B _ hB
  intro b' ob hb'
  unfold Store.set at hb'
  by_cases hbg : b' = B
  · rw [if_pos hbg] at hb'; injection hb' with hb'; subst hb'; subst hbg
    exact ⟨by rw [hne b' (by rw [q2]; simp), q2], q3, c, t, q4, CellsR.take (av := .bb 5 n ds) q5 ho, FlT.setAt q6 (by intro z hz; rw [List.mem_singleton] at hz; subst hz; rfl) o⟩
  · rw [if_neg hbg] at hb'
    obtain ⟨r1, r2, r3⟩ := hs b' ob hb'
    refine ⟨by rw [hne b' (by rw [r1]; simp), r1], r2, ?_⟩
    cases ob with
    | cells cs' =>
      obtain ⟨c0, t0, r4, r5, r6⟩ := r3
      exact ⟨c0, t0, r4, r5.mono (fun _ _ hv => hv) (fun b'' j hb'' => ⟨by rw [hne b'' (by rw [hb'']; intro e; injection e with e _; exact hbg e), hb''], rfl, rfl⟩), r6⟩
    | map es => exact r3
theorem flat_u8_map : ∀ l : List UInt8, flat l = l.map fun c => AV.int .u8 c.toNat
 | [] => rfl
 | c :: l => by rw [List.map_cons, ← flat_u8_map l]; rfl
theorem flat_u8_get (l : List UInt8) (j : Nat) : (flat l)[j]? = l[j]?.map fun c => AV.int .u8 c.toNat := by rw [flat_u8_map, List.getElem?_map]
theorem strings_Builder_String_fn {b_0 : Bld} {B0 : Nat} {preB0 postB0 : List AV} {oB0 TB0 : Nat} {s : Store} {Q : List AV → Store → Prop} (hB0 : s B0 = some (.cells (Wi preB0 [bldA TB0 B0 oB0 b_0, bldB b_0] postB0))) (eB0 : preB0.length = oB0) (lB0 : liesB Go.Proofs.Tryz.prog TB0 (preB0.length + 2 + postB0.length) oB0 71 = true) :
    ok (strings_Builder_String b_0) (fun r => Q [.str r.1.b] (s.set B0 (.cells (Wi preB0 [bldA TB0 B0 oB0 r.2, bldB r.2] postB0)))) → FN Go.Proofs.Tryz.prog 45 [.ref B0 oB0] s Q := by
  unfold strings_Builder_String
  rintro ⟨r, h1, h2⟩
  unfold need at h1
  split at h1 <;> try (cases h1; done)
  rename_i how
  injection h1 with h1
  subst h1
  subst eB0
  obtain ⟨u, ow, ⟨l⟩⟩ := b_0
  obtain ⟨how, hroom⟩ := how
  obtain rfl : ow = true := how
  have hroom : l.length ≤ room := hroom
  intro G w vs hg hout hs ha
  have hvs : vs = #[.pointer (some ⟨B0, preB0.length, none⟩)] := by
    obtain ⟨hl, hr⟩ := ha
    obtain ⟨vl⟩ := vs
    match vl, hl with
    | [v], _ => rw [VR.inv_ref (hr 0 _ v rfl rfl)]
    | [], hl => simp at hl
    | _ :: _ :: _, hl => simp at hl
  subst hvs
  let A := bldA TB0 B0 preB0.length ⟨u, true, ⟨l⟩⟩
  have hbb : (Wi preB0 [A, bldB ⟨u, true, ⟨l⟩⟩] postB0)[preB0.length + 1]? = some (.bb 5 l.length (flat l)) := by rw [get_Wi _ _ _ _ (by simp)]; rfl
  have hset : setAt (Wi preB0 [A, bldB ⟨u, true, ⟨l⟩⟩] postB0) (preB0.length + 1) [.sl false 1 l.length (flat l)] = Wi preB0 [A, .sl false 1 l.length (flat l)] postB0 := by rw [setAt_Wi _ _ _ _ _ (by simp)]; rfl
  obtain ⟨k1, k2, k3⟩ := str_step hg hs hB0 hbb
  rw [hset] at k1
  have hq : Q [.str l] (s.set B0 (.cells (Wi preB0 [A, .sl false 1 l.length (flat l)] postB0))) := h2
  obtain ⟨q2, q3, c, t, q4, q5, q6⟩ := hs B0 _ hB0
  have hlt : preB0.length + 1 < c.size := by rw [q5.1]; exact (List.getElem?_eq_some_iff.1 hbb).1
  have hcell := Array.getElem?_eq_getElem hlt
  obtain ⟨hv, hw⟩ := q5.2 _ _ _ hbb hcell
  have hwc : w.cell? ⟨B0, preB0.length + 1, none⟩ = some c[preB0.length + 1] := by rw [cell_of_row w q4, hcell]
  generalize c[preB0.length + 1] = v at hv hw hwc
  cases l with
  | nil =>
    obtain rfl := VR.inv_bb0 hv
    refine (String_run0 hwc).mono fun e w' ⟨he, hw'⟩ => ?_
    subst hw'
    refine ⟨_, _, _, G.retag (.cell B0 (preB0.length + 1)) .frame, he, hq, ⟨k2.newO, k2.newR⟩, ?_, ⟨.str _, trivial⟩, k3.trans (Pres.drew _ w)⟩
    exact k1.mono k2 (Pres.drew _ w) (fun _ hb => ⟨hb, rfl, rfl⟩) (fun _ _ _ _ hc => ⟨hc, rfl, rfl⟩)
  | cons x l' =>
    generalize hL : x :: l' = L at *
    have hL0 : L ≠ [] := by rw [← hL]; simp
    have hpos : 0 < L.length := by rw [← hL]; simp
    rcases VR.inv_sl (VR.inv_bb hv) with ⟨_, h0, _⟩ | ⟨g, off, cap, rfl, hcl, hRb, hcap, hat⟩
    · omega
    · obtain ⟨b', off', cur, fz, e1, e2, e3, e4, e5, e6⟩ := hw _ _ _ rfl (.inr hpos)
      injection e1 with e1; injection e1 with e1 e1' _
      subst e1; subst e1'
      obtain rfl : off = 0 := e6.2.2.1
      have hcells : ∀ (j : Nat) (y : UInt8), L[j]? = some y → w.cell? ⟨g, j, none⟩ = some (.int .u8 y.toNat) := by
        intro j y hj
        obtain ⟨uu, u1, u2, _⟩ := hat
        have hfj : (flat L)[j]? = some (.int .u8 y.toNat) := by rw [flat_u8_get, hj]; rfl
        have := u1 j _ hfj
        rw [Nat.zero_add] at this
        rw [this, VR.inv_int (u2 j _ hfj)]
      refine (String_run1 hwc e4 hL0 (by omega) (by rw [e5]; omega) (by have : room = 140737488355328 := rfl; omega) hcells).mono fun e w' ⟨he, hw'⟩ => ?_
      subst hw'
      obtain ⟨f1, f2, fz', f3⟩ := freeze_heap (w := w.drew) (n := L.length) e4
      have hgO : G.O g = .cell B0 (preB0.length + 1) := e2
      let G' := G.retag (.cell B0 (preB0.length + 1)) .frame
      have hG'g : G'.O g = .frame := by simp [G', hgO]
      have hfc := freeze_cell (w := w.drew) (n := L.length) e4
      have hne : ∀ b, G.O b ≠ .cell B0 (preB0.length + 1) → G'.O b = G.O b := fun b hb => by simp [G', hb]
      have hpres : Pres G w G' (w.drew.freeze ⟨g, 0, none⟩ L.length) := by
        refine ⟨?_, ?_, ?_, ?_, ?_, fun _ _ => Nat.le_refl _, fun b k _ _ => hfc b k, fun b _ hb => ?_, fun b _ hb => ⟨?_, rfl⟩, fun b _ hb => ⟨?_, rfl⟩⟩
        · unfold World.freeze; split <;> rfl
        · unfold World.freeze; split <;> rfl
        · unfold World.freeze; split <;> rfl
        · unfold World.freeze; split <;> exact Nat.le_succ _
        · rw [f2]; exact Nat.le_refl _
        · exact f1 b (fun e => by subst e; rw [hgO] at hb; rcases hb with hb | hb <;> cases hb)
        · rw [hne b (by rw [hb]; simp), hb]
        · rw [hne b (by rw [hb]; simp), hb]
      have hvr : ∀ a v, VR w G'.R a v → VR (w.drew.freeze ⟨g, 0, none⟩ L.length) G'.R a v := fun a v h => VR.mono (w := w) (fun _ => Nat.le_refl _) (fun b k _ => hfc b k) h
      refine ⟨_, _, _, G', he, hq, ⟨fun b hb => ?_, fun b hb => ?_⟩, ?_, ⟨.str _, trivial⟩, hpres⟩
      · rw [f2] at hb; exact k2.newO b hb
      · rw [f2] at hb; exact k2.newR b hb
      · refine k1.mono' hvr (fun b hb => ⟨hb, rfl, f1 b (fun e => by subst e; rw [hG'g] at hb; cases hb)⟩) (fun b c' j _ hc => ⟨hc, rfl, f1 c' (fun e => by subst e; rw [hG'g] at hc; cases hc)⟩)
end Go.AB
end

section
set_option maxRecDepth 4000
namespace Go.AB
open Go
structure api_Value where
 Kind : Int
 N : Int
 S : Str
 L : (List api_Value)
mutual
def api_ValueC : api_Value → List AV
 | ⟨k, n, s, l⟩ => [.int .i64 k, .int .i64 n, .str s.b, .sl false 4 l.length (api_ValueL l)]
def api_ValueL : List api_Value → List AV
 | [] => []
 | v :: l => api_ValueC v ++ api_ValueL l
end
theorem api_ValueC_v (x : api_Value) : views (api_ValueC x) = api_ValueC x := by cases x; simp [api_ValueC, views, view]
theorem api_ValueC_l (x : api_Value) : (api_ValueC x).length = 4 := by cases x; simp [api_ValueC]
instance : Enc api_Value := ⟨4, api_ValueC, ⟨0, 0, ⟨[]⟩, []⟩, by decide, api_ValueC_l, api_ValueC_v⟩
theorem api_ValueL_flat : ∀ l : List api_Value, api_ValueL l = flat l
 | [] => by rw [api_ValueL]; rfl
 | v :: l => by rw [api_ValueL, api_ValueL_flat l]; rfl
@[go_sem] theorem cells_api_Value (x : api_Value) : Enc.cells x = [.int .i64 x.Kind, .int .i64 x.N, .str x.S.b, .sl false 4 x.L.length (flat x.L)] := by
 cases x
 show api_ValueC _ = _
 rw [api_ValueC, api_ValueL_flat]
@[go_sem] theorem pad_api_Value (l : List api_Value) (i : Int) : pad [.int .i64 0, .int .i64 0, .str [], .sl false 4 0 []] (views (AB.sub (flat l) (i.toNat * 4) 4)) = [.int .i64 ((ix l i).Kind), .int .i64 ((ix l i).N), .str ((ix l i).S).b, .sl false 4 ((ix l i).L).length (flat ((ix l i).L))] := by
 rw [← cells_api_Value]; exact flat_pad _ 4 l i (by rw [cells_api_Value]; rfl) rfl
attribute [-go_sem] xwp_cons xwpK_eq xalt_cons xalt_nil
theorem x_to {P : Program} {X : Prop} {deps : List (List Bool)} {ops f : List IOper} {live : List Nat} {Q : Exit → St → Prop} {d : List Bool} {σ φ : St}
  (h1 : ∀ Q' : St → Prop, Q' φ → xwp P deps ops (fun τ => Q' (τ.keep live)) f d σ) (h2 : X → Q .normal φ) : X → xwp P deps ops (regK live Q) f d σ := fun x => h1 (fun τ => Q .normal τ) (h2 x)
@[go_sem] theorem ble11 : Nat.ble 1 1 = true := rfl
@[go_sem] theorem ix_toNat {α : Type} [Enc α] (l : List α) (i : Int) : ix l ((i.toNat : Nat) : Int) = ix l i := rfl
@[go_sem] theorem pad_int_n (l : List Int) (n : Nat) : pad [.int .i64 0] (views (AB.sub (flat l) (n * 1) 1)) = [.int .i64 (ix l (n : Int))] := pad_int l n
theorem FN_cast {P : Program} {f : FuncId} {as1 as2 : List AV} {s : Store} {Q : List AV → Store → Prop} (e : as1 = as2) (h : FN P f as1 s Q) : FN P f as2 s Q := e ▸ h
theorem im_and {c p : Bool} {A : Prop} (h : p = true → A) : (c && p) = true → A := fun hh => h (by cases c <;> simp_all)
theorem lies_145 : liesB Go.Proofs.Tryz.prog 145 5 0 71 = true := by kernel_rfl
structure lex_Token where
 Kind : Int
 From : Int
 To : Int
 V : api_Value
 S : Str
instance : Enc lex_Token := ⟨8, fun x => [.int .i64 x.Kind, .int .i64 x.From, .int .i64 x.To, .int .i64 x.V.Kind, .int .i64 x.V.N, .str x.V.S.b, .sl false 4 x.V.L.length (flat x.V.L), .str x.S.b], (lex_Token.mk 0 0 0 (api_Value.mk 0 0 (Str.mk []) []) (Str.mk [])), by decide, fun _ => rfl, fun _ => rfl⟩
def lex_Space (c_0 : UInt8) : Option (Bool) :=
 some (((((((c_0.toNat : Int) == 0) || ((c_0.toNat : Int) == 9)) || ((c_0.toNat : Int) == 10)) || ((c_0.toNat : Int) == 12)) || ((c_0.toNat : Int) == 13)) || ((c_0.toNat : Int) == 32))
def ir_lex_Space : IC :=
 (.seq (.reg none [mkk 2 (.bool false)] [0])
 (.seq (.reg none [mv 3 0,
 bu 4 .eql 3 0,
 mv 5 4,
 mvg 6 0 5 false,
 i1g 7 5 false (.bin .eql (.t 6) (.c (.int .u8 9))),
 po 8 5 7,
 mv 9 8,
 mvg 10 0 9 false,
 i1g 11 9 false (.bin .eql (.t 10) (.c (.int .u8 10))),
 po 12 9 11,
 mv 13 12,
 mvg 14 0 13 false,
 i1g 15 13 false (.bin .eql (.t 14) (.c (.int .u8 12))),
 po 16 13 15,
 mv 17 16,
 mvg 18 0 17 false,
 i1g 19 17 false (.bin .eql (.t 18) (.c (.int .u8 13))),
 po 20 17 19,
 mv 21 20,
 mvg 22 0 21 false,
 i1g 23 21 false (.bin .eql (.t 22) (.c (.int .u8 32))),
 po 24 21 23,
 mv 2 24] [2])
 .ret))
def res_lex_Space : List IRes := [⟨2, true, none⟩]
theorem is_lex_Space : fnIs Go.Proofs.Tryz.prog 129 25 res_lex_Space ir_lex_Space = true := by kernel_rfl
theorem lex_Space_fn {c_0} {s : Store} {Q : List AV → Store → Prop}  : ok (lex_Space c_0) (fun r => Q [.bool r] s) → FN Go.Proofs.Tryz.prog 129 [.int .u8 c_0.toNat] s Q := by
 intro h
 refine FN.of (draw_ok mix) is_lex_Space rfl (Nat.le_of_ble_eq_true rfl) ?_
 revert h
 rw [ir_lex_Space, res_lex_Space, lex_Space]
 repeat' (first
  | simp -implicitDefEqProofs only [go_sem, seval])
theorem lex_Space_fe {c_0} {s : Store} {r : Bool}  (h : lex_Space c_0 = some r) : FE Go.Proofs.Tryz.prog 129 [.int .u8 c_0.toNat] s [.bool r] s := lex_Space_fn  ⟨r, h, rfl, rfl⟩
def lex_Skip (b_0 : (List UInt8)) (at_1 : Int) : Option (Int) :=
 if decide (at_1 < 0) then
  some 0
 else
  jnS (
   bndS (
    iter (fun ((at3, comment4) : Int × Bool) =>
     if decide (at3 < (b_0.length : Int)) then
      jnS (
       need (0 ≤ at3 ∧ at3 < b_0.length) <|
       if comment4 then
        some (.inl ((((ix b_0 at3).toNat : Int) != 10) && (((ix b_0 at3).toNat : Int) != 13)))
       else
        if ((ix b_0 at3).toNat : Int) == 37 then
         some (.inl true)
        else
         bnd (lex_Space (ix b_0 at3)) fun r11 =>
         if !r11 then
          some (.inr at3)
         else
          some (.inl comment4)) (fun (comment9 : Bool) =>
       some (.inl (w64 (at3 + 1), comment9)))
      (fun (t10 : Int) => some (.inr (.inr t10)))
     else
      some (.inr (.inl ()))) (at_1, false)) (fun (_ : Unit) =>
    some (.inl ()))
   (fun (t6 : Int) => some (.inr t6))) (fun (_ : Unit) =>
   some (b_0.length : Int))
  (fun (t2 : Int) => some t2)
def ir_lex_Skip : IC :=
 (.seq (.reg none [mi 4 0] [0, 1])
 (.seq (.seq (.reg none [mv 7 1,
 bn 8 .lss 7 0] [0, 1, 8])
 (.cond (.t 8) (.seq (.reg none [mi 4 0] [4])
 .ret)
 .skip))
 (.seq (.reg none [mkk 5 (.bool false)] [0, 1, 5])
 (.join [(0, true)] (.block 0 (.loop [(0, true), (1, false), (5, false)] (.seq (.seq (.reg none [mv 9 1,
 mv 10 0,
 le 11 0 10,
 bt 12 .lss 9 11] [0, 1, 5, 12])
 (.cond (.t 12) .skip
 (.exit 0)))
 (.join [(0, true), (1, false), (5, false)] (.block 1 (.seq (.reg none [mv 15 0,
 mv 16 1,
 ia 17 [.int .u8 0] 15 16,
 ld 18 1 17,
 mv 6 18] [0, 1, 5, 6])
 (.block 2 (.seq (.reg none [mv 20 5,
 mv 19 20] [0, 1, 5, 6, 19])
 (.cond (.t 19) (.reg none [mv 21 6,
 bu 22 .neq 21 10,
 mv 23 22,
 mvg 24 6 23 true,
 i1g 25 23 true (.bin .neq (.t 24) (.c (.int .u8 13))),
 pf 26 23 25,
 mv 5 26] [0, 1, 5])
 (.seq (.reg none [mv 28 6,
 bu 29 .eql 28 37,
 mv 27 29] [0, 1, 5, 6, 27])
 (.cond (.t 27) (.reg none [mkk 5 (.bool true)] [0, 1, 5])
 (.seq (.reg none [mv 31 6,
 c1 32 129 31,
 no 33 32,
 mv 30 33] [0, 1, 5, 30])
 (.cond (.t 30) (.seq (.reg none [mv 34 1,
 mv 4 34] [4])
 .ret)
 .skip)))))))))
 (.reg none [mv 13 1,
 bn 14 .add 13 1,
 mv 1 14] [0, 1, 5])))))
 (.seq (.reg none [mt 35 0,
 le 36 0 35,
 mv 4 36] [4])
 .ret)))))
def res_lex_Skip : List IRes := [⟨4, true, none⟩]
theorem is_lex_Skip : fnIs Go.Proofs.Tryz.prog 98 37 res_lex_Skip ir_lex_Skip = true := by kernel_rfl
theorem lex_Skip_fn {b_0 at_1} {s : Store} {Q : List AV → Store → Prop}  : ok (lex_Skip b_0 at_1) (fun r => Q [.int .i64 r] s) → FN Go.Proofs.Tryz.prog 98 [.sl false 1 b_0.length (flat b_0), .int .i64 at_1] s Q := by
 intro h
 refine FN.of (draw_ok mix) is_lex_Skip rfl (Nat.le_of_ble_eq_true rfl) ?_
 revert h
 rw [ir_lex_Skip, res_lex_Skip, lex_Skip]
 repeat' (first
  | with_reducible exact tt_to
  | with_reducible refine and_to ?_ ?_
  | with_reducible refine im_to ?_
  | with_reducible refine call_to (fun _ (h : lex_Space (ix b_0 at3) = some _) => lex_Space_fe h) (fun r11 => ?_)
  | ((with_reducible refine join_toS (live := [(0, true), (1, false), (5, false)]) (fun (comment9 : Bool) => ⟨[(0, .sl false 1 b_0.length (flat b_0)), (1, .int .i64 at3), (5, .bool comment9)], [], s⟩) (fun J => ?_) ?_); rotate_left; rintro comment9)
  | ((with_reducible refine iter_to (fun ((at3, comment4) : Int × Bool) => ⟨[(0, .sl false 1 b_0.length (flat b_0)), (1, .int .i64 at3), (5, .bool comment4)], [], s⟩) ?_ ?_); (first | exact rfl | simp -implicitDefEqProofs only [go_sem, seval]); rintro J ⟨at3, comment4⟩)
  | ((with_reducible refine join_toS (live := [(0, true)]) (fun (_ : Unit) => ⟨[(0, .sl false 1 b_0.length (flat b_0))], [], s⟩) (fun J => ?_) ?_); rotate_left; rintro _)
  | simp -implicitDefEqProofs only [go_sem, seval])
theorem lex_Skip_fe {b_0 at_1} {s : Store} {r : Int}  (h : lex_Skip b_0 at_1 = some r) : FE Go.Proofs.Tryz.prog 98 [.sl false 1 b_0.length (flat b_0), .int .i64 at_1] s [.int .i64 r] s := lex_Skip_fn  ⟨r, h, rfl, rfl⟩
structure lex_scan where
 Builder : Bld
 b_ : (List UInt8)
 at_ : Int
 last_ : Bool
def strings_IndexByte (s_0 : Str) (c_1 : UInt8) : Option (Int) :=
 bnd (stringslite_IndexByte s_0 c_1) fun r1 =>
 some r1
def ir_strings_IndexByte : IC :=
 (.seq (.reg none [mi 4 0] [0, 1])
 (.seq (.reg none [mv 5 0,
 mv 6 1,
 c2 7 106 5 6,
 mv 4 7] [4])
 .ret))
def res_strings_IndexByte : List IRes := [⟨4, true, none⟩]
theorem is_strings_IndexByte : fnIs Go.Proofs.Tryz.prog 67 8 res_strings_IndexByte ir_strings_IndexByte = true := by kernel_rfl
theorem strings_IndexByte_fn {s_0 c_1} {s : Store} {Q : List AV → Store → Prop}  : ok (strings_IndexByte s_0 c_1) (fun r => Q [.int .i64 r] s) → FN Go.Proofs.Tryz.prog 67 [.str s_0.b, .int .u8 c_1.toNat] s Q := by
 intro h
 refine FN.of (draw_ok mix) is_strings_IndexByte rfl (Nat.le_of_ble_eq_true rfl) ?_
 revert h
 rw [ir_strings_IndexByte, res_strings_IndexByte, strings_IndexByte]
 repeat' (first
  | with_reducible refine call_to (fun _ (h : stringslite_IndexByte s_0 c_1 = some _) => stringslite_IndexByte_fe h) (fun r1 => ?_)
  | simp -implicitDefEqProofs only [go_sem, seval])
theorem strings_IndexByte_fe {s_0 c_1} {s : Store} {r : Int}  (h : strings_IndexByte s_0 c_1 = some r) : FE Go.Proofs.Tryz.prog 67 [.str s_0.b, .int .u8 c_1.toNat] s [.int .i64 r] s := strings_IndexByte_fn  ⟨r, h, rfl, rfl⟩
def lex_Delim (c_0 : UInt8) : Option (Bool) :=
 bnd (strings_IndexByte (Str.mk [40, 41, 60, 62, 91, 93, 123, 125, 47, 37]) c_0) fun r1 =>
 some (decide (r1 ≥ 0))
def ir_lex_Delim : IC :=
 (.seq (.reg none [mkk 2 (.bool false)] [0])
 (.seq (.reg none [mv 3 0,
 i1 4 (.call 67 [(.c (.str [40, 41, 60, 62, 91, 93, 123, 125, 47, 37])), (.t 3)]),
 bn 5 .geq 4 0,
 mv 2 5] [2])
 .ret))
def res_lex_Delim : List IRes := [⟨2, true, none⟩]
theorem is_lex_Delim : fnIs Go.Proofs.Tryz.prog 118 6 res_lex_Delim ir_lex_Delim = true := by kernel_rfl
theorem lex_Delim_fn {c_0} {s : Store} {Q : List AV → Store → Prop}  : ok (lex_Delim c_0) (fun r => Q [.bool r] s) → FN Go.Proofs.Tryz.prog 118 [.int .u8 c_0.toNat] s Q := by
 intro h
 refine FN.of (draw_ok mix) is_lex_Delim rfl (Nat.le_of_ble_eq_true rfl) ?_
 revert h
 rw [ir_lex_Delim, res_lex_Delim, lex_Delim]
 repeat' (first
  | with_reducible refine call_to (fun _ (h : strings_IndexByte (Str.mk [40, 41, 60, 62, 91, 93, 123, 125, 47, 37]) c_0 = some _) => strings_IndexByte_fe h) (fun r1 => ?_)
  | simp -implicitDefEqProofs only [go_sem, seval])
theorem lex_Delim_fe {c_0} {s : Store} {r : Bool}  (h : lex_Delim c_0 = some r) : FE Go.Proofs.Tryz.prog 118 [.int .u8 c_0.toNat] s [.bool r] s := lex_Delim_fn  ⟨r, h, rfl, rfl⟩
def lex_regular (c_0 : UInt8) : Option (Bool) :=
 bnd (lex_Space c_0) fun r1 =>
 bnd (whenB (!r1) false (lex_Delim c_0)) fun r2 =>
 some ((!r1) && (!r2))
def ir_lex_regular : IC :=
 (.seq (.reg none [mkk 2 (.bool false)] [0])
 (.seq (.reg (some 6) [mv 3 0,
 c1 4 129 3,
 no 5 4,
 mv 6 5,
 mvg 7 0 6 true,
 i1g 8 6 true (.call 118 [(.t 7)]),
 i1g 9 6 true (.un .not (.t 8)),
 pf 10 6 9,
 mv 2 10] [2])
 .ret))
def res_lex_regular : List IRes := [⟨2, true, none⟩]
theorem is_lex_regular : fnIs Go.Proofs.Tryz.prog 130 11 res_lex_regular ir_lex_regular = true := by kernel_rfl
theorem lex_regular_fn {c_0} {s : Store} {Q : List AV → Store → Prop}  : ok (lex_regular c_0) (fun r => Q [.bool r] s) → FN Go.Proofs.Tryz.prog 130 [.int .u8 c_0.toNat] s Q := by
 intro h
 refine FN.of (draw_ok mix) is_lex_regular rfl (Nat.le_of_ble_eq_true rfl) ?_
 revert h
 rw [ir_lex_regular, res_lex_regular, lex_regular]
 repeat' (first
  | with_reducible refine call_to_q (fun _ (h : lex_Space c_0 = some _) => lex_Space_fe h) (fun _ => rfl) (fun r1 => ?_)
  | with_reducible refine call_to_g rfl (fun _ (h : lex_Delim c_0 = some _) => lex_Delim_fe h) (fun _ => rfl) (fun r2 => ?_)
  | simp -implicitDefEqProofs only [go_sem, seval])
theorem lex_regular_fe {c_0} {s : Store} {r : Bool}  (h : lex_regular c_0 = some r) : FE Go.Proofs.Tryz.prog 130 [.int .u8 c_0.toNat] s [.bool r] s := lex_regular_fn  ⟨r, h, rfl, rfl⟩
def lex_scan_word (s_0 : lex_scan) : Option (Str × Bool × lex_scan) :=
 jn (
  iter (fun (o3 : lex_scan) =>
   need ((decide (o3.at_ < (o3.b_.length : Int))) = true → 0 ≤ o3.at_ ∧ o3.at_ < o3.b_.length) <|
   bnd (whenB (decide (o3.at_ < (o3.b_.length : Int))) false (lex_regular (ix o3.b_ o3.at_))) fun r6 =>
   if (decide (o3.at_ < (o3.b_.length : Int))) && r6 then
    some (.inl (lex_scan.mk o3.Builder o3.b_ (w64 (o3.at_ + 1)) o3.last_))
   else
    some (.inr o3)) s_0) fun (o2 : lex_scan) =>
 need (0 ≤ s_0.at_ ∧ s_0.at_ ≤ o2.at_ ∧ o2.at_ ≤ o2.b_.length) <|
 some (Str.mk (part o2.b_ s_0.at_ o2.at_), (decide (o2.at_ < (o2.b_.length : Int))) || o2.last_, o2)
def ir_lex_scan_word : IC :=
 (.seq (.reg none [mkk 2 (.str []),
 mkk 3 (.bool false)] [0])
 (.seq (.reg none [mv 5 0,
 nc 6 5,
 fa 7 3 6,
 i1 8 (.loadR [.int .i64 0] false (.t 7)),
 mv 4 8] [0, 4])
 (.join [(0, false), (4, false)] (.block 0 (.loop [(0, false), (4, false)] (.seq (.seq (.reg (some 23) [mv 9 0,
 nc 10 9,
 fa 11 3 10,
 i1 12 (.loadR [.int .i64 0] false (.t 11)),
 mv 13 0,
 nc 14 13,
 fa 15 2 14,
 i1 16 (.loadR [.sl false 1 0 []] false (.t 15)),
 le 17 0 16,
 bt 18 .lss 12 17,
 mv 19 18,
 mvg 20 0 19 true,
 i1g 21 19 true (.nilCheck (.t 20)),
 fg 22 19 true 2 21,
 i1g 23 19 true (.loadR [.sl false 1 0 []] false (.t 22)),
 mvg 24 0 19 true,
 i1g 25 19 true (.nilCheck (.t 24)),
 fg 26 19 true 3 25,
 i1g 27 19 true (.loadR [.int .i64 0] false (.t 26)),
 i1g 28 19 true (.indexAddr [.int .u8 0] (.t 23) (.t 27)),
 lg 29 19 true 1 28,
 i1g 30 19 true (.call 130 [(.t 29)]),
 pf 31 19 30] [0, 4, 31])
 (.cond (.t 31) .skip
 (.exit 0)))
 (.block 1 (.reg none [mv 32 0,
 nc 33 32,
 fa 34 3 33,
 i1 35 (.loadR [.int .i64 0] false (.t 34)),
 bn 36 .add 35 1,
 nc 37 32,
 fa 38 3 37,
 st 1 38 36] [0, 4])))))
 (.seq (.reg (some 29) [mv 39 0,
 nc 40 39,
 fa 41 2 40,
 i1 42 (.loadR [.sl false 1 0 []] false (.t 41)),
 mv 43 4,
 mv 44 0,
 nc 45 44,
 fa 46 3 45,
 i1 47 (.loadR [.int .i64 0] false (.t 46)),
 i1 48 (.slice 1 (.t 42) (some (.t 43)) (some (.t 47)) none),
 i1 49 (.cvtStr (.t 48)),
 mv 50 0,
 nc 51 50,
 fa 52 3 51,
 i1 53 (.loadR [.int .i64 0] false (.t 52)),
 mv 54 0,
 nc 55 54,
 fa 56 2 55,
 i1 57 (.loadR [.sl false 1 0 []] false (.t 56)),
 le 58 0 57,
 bt 59 .lss 53 58,
 mv 60 59,
 mvg 61 0 60 false,
 i1g 62 60 false (.nilCheck (.t 61)),
 fg 63 60 false 4 62,
 i1g 64 60 false (.loadR [.bool false] false (.t 63)),
 po 65 60 64,
 mv 2 49,
 mv 3 65] [2, 3])
 .ret))))
def res_lex_scan_word : List IRes := [⟨2, true, none⟩, ⟨3, true, none⟩]
theorem is_lex_scan_word : fnIs Go.Proofs.Tryz.prog 135 66 res_lex_scan_word ir_lex_scan_word = true := by kernel_rfl
theorem lex_scan_word_fn {s_0} {B0 : Nat} {s : Store} {Q : List AV → Store → Prop} (hB0 : s B0 = some (.cells [bldA 145 B0 0 s_0.Builder, bldB s_0.Builder, .sl false 1 s_0.b_.length (flat s_0.b_), .int .i64 s_0.at_, .bool s_0.last_])) : ok (lex_scan_word s_0) (fun r => Q [.str r.1.b, .bool r.2.1] (s.set B0 (.cells [bldA 145 B0 0 r.2.2.Builder, bldB r.2.2.Builder, .sl false 1 r.2.2.b_.length (flat r.2.2.b_), .int .i64 r.2.2.at_, .bool r.2.2.last_]))) → FN Go.Proofs.Tryz.prog 135 [.ref B0 0] s Q := by
 have hS : s = (s.set B0 (.cells [bldA 145 B0 0 s_0.Builder, bldB s_0.Builder, .sl false 1 s_0.b_.length (flat s_0.b_), .int .i64 s_0.at_, .bool s_0.last_])) := by simp only [set_eq' hB0]
 rw [hS]
 intro h
 refine FN.of (draw_ok mix) is_lex_scan_word rfl (Nat.le_of_ble_eq_true rfl) ?_
 revert h
 rw [ir_lex_scan_word, res_lex_scan_word, lex_scan_word]
 repeat' (first
  | with_reducible exact tt_to
  | with_reducible refine and_to ?_ ?_
  | with_reducible refine call_to_g rfl (fun _ (h : lex_regular (ix o3.b_ o3.at_) = some _) => lex_regular_fe h) (fun _ => rfl) (fun r6 => ?_)
  | ((with_reducible refine iter_to (fun (o3 : lex_scan) => ⟨[(0, .ref B0 0), (4, .int .i64 s_0.at_)], [], (s.set B0 (.cells [bldA 145 B0 0 o3.Builder, bldB o3.Builder, .sl false 1 o3.b_.length (flat o3.b_), .int .i64 o3.at_, .bool o3.last_]))⟩) ?_ ?_); (first | exact rfl | simp -implicitDefEqProofs only [go_sem, seval]); rintro J o3)
  | ((with_reducible refine join_to (fun (o2 : lex_scan) => ⟨[(0, .ref B0 0), (4, .int .i64 s_0.at_)], [], (s.set B0 (.cells [bldA 145 B0 0 o2.Builder, bldB o2.Builder, .sl false 1 o2.b_.length (flat o2.b_), .int .i64 o2.at_, .bool o2.last_]))⟩) (fun J => ?_) ?_); rotate_left; rintro o2)
  | simp -implicitDefEqProofs only [go_sem, seval])
def internal_stringslite_HasPrefix (s_0 : Str) (prefix_1 : Str) : Option (Bool) :=
 need ((decide ((s_0.b.length : Int) ≥ (prefix_1.b.length : Int))) = true → 0 ≤ (0 : Int) ∧ 0 ≤ (prefix_1.b.length : Int) ∧ (prefix_1.b.length : Int) ≤ s_0.b.length) <|
 some ((decide ((s_0.b.length : Int) ≥ (prefix_1.b.length : Int))) && ((Str.mk (part s_0.b 0 (prefix_1.b.length : Int))).b == prefix_1.b))
def ir_internal_stringslite_HasPrefix : IC :=
 (.seq (.reg none [mkk 4 (.bool false)] [0, 1])
 (.seq (.reg none [mv 5 0,
 le 6 1 5,
 mv 7 1,
 le 8 1 7,
 bt 9 .geq 6 8,
 mv 10 9,
 mvg 11 0 10 true,
 mvg 12 1 10 true,
 i1g 13 10 true (.len 1 (.t 12)),
 i1g 14 10 true (.sslice (.t 11) none (some (.t 13))),
 mvg 15 1 10 true,
 i1g 16 10 true (.bin .eql (.t 14) (.t 15)),
 pf 17 10 16,
 mv 4 17] [4])
 .ret))
def res_internal_stringslite_HasPrefix : List IRes := [⟨4, true, none⟩]
theorem is_internal_stringslite_HasPrefix : fnIs Go.Proofs.Tryz.prog 231 18 res_internal_stringslite_HasPrefix ir_internal_stringslite_HasPrefix = true := by kernel_rfl
theorem internal_stringslite_HasPrefix_fn {s_0 prefix_1} {s : Store} {Q : List AV → Store → Prop}  : ok (internal_stringslite_HasPrefix s_0 prefix_1) (fun r => Q [.bool r] s) → FN Go.Proofs.Tryz.prog 231 [.str s_0.b, .str prefix_1.b] s Q := by
 intro h
 refine FN.of (draw_ok mix) is_internal_stringslite_HasPrefix rfl (Nat.le_of_ble_eq_true rfl) ?_
 revert h
 rw [ir_internal_stringslite_HasPrefix, res_internal_stringslite_HasPrefix, internal_stringslite_HasPrefix]
 repeat' (first
  | simp -implicitDefEqProofs only [go_sem, seval])
theorem internal_stringslite_HasPrefix_fe {s_0 prefix_1} {s : Store} {r : Bool}  (h : internal_stringslite_HasPrefix s_0 prefix_1 = some r) : FE Go.Proofs.Tryz.prog 231 [.str s_0.b, .str prefix_1.b] s [.bool r] s := internal_stringslite_HasPrefix_fn  ⟨r, h, rfl, rfl⟩
def strings_HasPrefix (s_0 : Str) (prefix_1 : Str) : Option (Bool) :=
 bnd (internal_stringslite_HasPrefix s_0 prefix_1) fun r1 =>
 some r1
def ir_strings_HasPrefix : IC :=
 (.seq (.reg none [mkk 4 (.bool false)] [0, 1])
 (.seq (.reg none [mv 5 0,
 mv 6 1,
 c2 7 231 5 6,
 mv 4 7] [4])
 .ret))
def res_strings_HasPrefix : List IRes := [⟨4, true, none⟩]
theorem is_strings_HasPrefix : fnIs Go.Proofs.Tryz.prog 186 8 res_strings_HasPrefix ir_strings_HasPrefix = true := by kernel_rfl
theorem strings_HasPrefix_fn {s_0 prefix_1} {s : Store} {Q : List AV → Store → Prop}  : ok (strings_HasPrefix s_0 prefix_1) (fun r => Q [.bool r] s) → FN Go.Proofs.Tryz.prog 186 [.str s_0.b, .str prefix_1.b] s Q := by
 intro h
 refine FN.of (draw_ok mix) is_strings_HasPrefix rfl (Nat.le_of_ble_eq_true rfl) ?_
 revert h
 rw [ir_strings_HasPrefix, res_strings_HasPrefix, strings_HasPrefix]
 repeat' (first
  | with_reducible refine call_to (fun _ (h : internal_stringslite_HasPrefix s_0 prefix_1 = some _) => internal_stringslite_HasPrefix_fe h) (fun r1 => ?_)
  | simp -implicitDefEqProofs only [go_sem, seval])
theorem strings_HasPrefix_fe {s_0 prefix_1} {s : Store} {r : Bool}  (h : strings_HasPrefix s_0 prefix_1 = some r) : FE Go.Proofs.Tryz.prog 186 [.str s_0.b, .str prefix_1.b] s [.bool r] s := strings_HasPrefix_fn  ⟨r, h, rfl, rfl⟩
def internal_stringslite_Cut (s_0 : Str) (sep_1 : Str) : Option (Str × Str × Bool) :=
 bnd (stringslite_Index s_0 sep_1) fun r1 =>
 if decide (r1 ≥ 0) then
  need (0 ≤ (0 : Int) ∧ 0 ≤ r1 ∧ r1 ≤ s_0.b.length) <|
  need (0 ≤ w64 (r1 + (sep_1.b.length : Int)) ∧ w64 (r1 + (sep_1.b.length : Int)) ≤ (s_0.b.length : Int) ∧ (s_0.b.length : Int) ≤ s_0.b.length) <|
  some (Str.mk (part s_0.b 0 r1), Str.mk (part s_0.b (w64 (r1 + (sep_1.b.length : Int))) (s_0.b.length : Int)), true)
 else
  some (s_0, (Str.mk []), false)
def ir_internal_stringslite_Cut : IC :=
 (.seq (.reg none [mkk 4 (.str []),
 mkk 5 (.str []),
 mkk 6 (.bool false)] [0, 1])
 (.seq (.seq (.reg none [mv 8 0,
 mv 9 1,
 c2 10 269 8 9,
 mv 7 10] [0, 1, 7])
 (.seq (.reg none [mv 11 7,
 bn 12 .geq 11 0] [0, 1, 7, 12])
 (.cond (.t 12) (.seq (.reg (some 12) [mv 13 0,
 mv 14 7,
 i1 15 (.sslice (.t 13) none (some (.t 14))),
 mv 16 0,
 mv 17 7,
 mv 18 1,
 le 19 1 18,
 bt 20 .add 17 19,
 i1 21 (.sslice (.t 16) (some (.t 20)) none),
 mv 4 15,
 mv 5 21,
 mkk 6 (.bool true)] [4, 5, 6])
 .ret)
 .skip)))
 (.seq (.reg none [mv 22 0,
 mv 4 22,
 mkk 5 (.str []),
 mkk 6 (.bool false)] [4, 5, 6])
 .ret)))
def res_internal_stringslite_Cut : List IRes := [⟨4, true, none⟩, ⟨5, true, none⟩, ⟨6, true, none⟩]
theorem is_internal_stringslite_Cut : fnIs Go.Proofs.Tryz.prog 250 23 res_internal_stringslite_Cut ir_internal_stringslite_Cut = true := by kernel_rfl
theorem internal_stringslite_Cut_fn {s_0 sep_1} {s : Store} {Q : List AV → Store → Prop}  : ok (internal_stringslite_Cut s_0 sep_1) (fun r => Q [.str r.1.b, .str r.2.1.b, .bool r.2.2] s) → FN Go.Proofs.Tryz.prog 250 [.str s_0.b, .str sep_1.b] s Q := by
 intro h
 refine FN.of (draw_ok mix) is_internal_stringslite_Cut rfl (Nat.le_of_ble_eq_true rfl) ?_
 revert h
 rw [ir_internal_stringslite_Cut, res_internal_stringslite_Cut, internal_stringslite_Cut]
 repeat' (first
  | with_reducible refine call_to (fun _ (h : stringslite_Index s_0 sep_1 = some _) => stringslite_Index_fe h) (fun r1 => ?_)
  | simp -implicitDefEqProofs only [go_sem, seval])
theorem internal_stringslite_Cut_fe {s_0 sep_1} {s : Store} {r : Str × Str × Bool}  (h : internal_stringslite_Cut s_0 sep_1 = some r) : FE Go.Proofs.Tryz.prog 250 [.str s_0.b, .str sep_1.b] s [.str r.1.b, .str r.2.1.b, .bool r.2.2] s := internal_stringslite_Cut_fn  ⟨r, h, rfl, rfl⟩
def strings_Cut (s_0 : Str) (sep_1 : Str) : Option (Str × Str × Bool) :=
 bnd (internal_stringslite_Cut s_0 sep_1) fun r1 =>
 some (r1.1, r1.2.1, r1.2.2)
def ir_strings_Cut : IC :=
 (.seq (.reg none [mkk 4 (.str []),
 mkk 5 (.str []),
 mkk 6 (.bool false)] [0, 1])
 (.seq (.reg none [mv 7 0,
 mv 8 1,
 c2 9 250 7 8,
 ex 10 9 0,
 ex 11 9 1,
 ex 12 9 2,
 mv 4 10,
 mv 5 11,
 mv 6 12] [4, 5, 6])
 .ret))
def res_strings_Cut : List IRes := [⟨4, true, none⟩, ⟨5, true, none⟩, ⟨6, true, none⟩]
theorem is_strings_Cut : fnIs Go.Proofs.Tryz.prog 215 13 res_strings_Cut ir_strings_Cut = true := by kernel_rfl
theorem strings_Cut_fn {s_0 sep_1} {s : Store} {Q : List AV → Store → Prop}  : ok (strings_Cut s_0 sep_1) (fun r => Q [.str r.1.b, .str r.2.1.b, .bool r.2.2] s) → FN Go.Proofs.Tryz.prog 215 [.str s_0.b, .str sep_1.b] s Q := by
 intro h
 refine FN.of (draw_ok mix) is_strings_Cut rfl (Nat.le_of_ble_eq_true rfl) ?_
 revert h
 rw [ir_strings_Cut, res_strings_Cut, strings_Cut]
 repeat' (first
  | with_reducible refine call_to (fun _ (h : internal_stringslite_Cut s_0 sep_1 = some _) => internal_stringslite_Cut_fe h) (fun r1 => ?_)
  | simp -implicitDefEqProofs only [go_sem, seval])
theorem strings_Cut_fe {s_0 sep_1} {s : Store} {r : Str × Str × Bool}  (h : strings_Cut s_0 sep_1 = some r) : FE Go.Proofs.Tryz.prog 215 [.str s_0.b, .str sep_1.b] s [.str r.1.b, .str r.2.1.b, .bool r.2.2] s := strings_Cut_fn  ⟨r, h, rfl, rfl⟩
def num_millionths (s_0 : Str) : Option (Int) :=
 need (((s_0.b.length + (Str.mk [48, 48, 48, 48, 48, 48]).b.length : Nat) : Int) ≤ hi64) <|
 need (0 ≤ (0 : Int) ∧ 0 ≤ 6 ∧ 6 ≤ (Str.mk (s_0.b ++ (Str.mk [48, 48, 48, 48, 48, 48]).b)).b.length) <|
 bnd (num_Digits (Str.mk (part (Str.mk (s_0.b ++ (Str.mk [48, 48, 48, 48, 48, 48]).b)).b 0 6))) fun r1 =>
 some r1.1
def ir_num_millionths : IC :=
 (.seq (.reg none [mi 2 0] [0])
 (.seq (.reg none [mv 5 0,
 i1 6 (.bin .add (.t 5) (.c (.str [48, 48, 48, 48, 48, 48]))),
 i1 7 (.sslice (.t 6) none (some (.c (.int .i64 6)))),
 mv 0 7] [0])
 (.seq (.reg none [mv 9 0,
 c1 10 217 9,
 i1 8 (.movT (.t 10)),
 ex 11 8 0,
 ex 12 8 1,
 mv 3 11,
 mv 4 12] [3])
 (.seq (.reg none [mv 13 3,
 mv 2 13] [2])
 .ret))))
def res_num_millionths : List IRes := [⟨2, true, none⟩]
theorem is_num_millionths : fnIs Go.Proofs.Tryz.prog 218 14 res_num_millionths ir_num_millionths = true := by kernel_rfl
theorem num_millionths_fn {s_0} {s : Store} {Q : List AV → Store → Prop}  : ok (num_millionths s_0) (fun r => Q [.int .i64 r] s) → FN Go.Proofs.Tryz.prog 218 [.str s_0.b] s Q := by
 intro h
 refine FN.of (draw_ok mix) is_num_millionths rfl (Nat.le_of_ble_eq_true rfl) ?_
 revert h
 rw [ir_num_millionths, res_num_millionths, num_millionths]
 repeat' (first
  | with_reducible exact tt_to
  | with_reducible refine and_to ?_ ?_
  | ((fail_if_success (have _x := r1)); with_reducible refine call_to (fun _ h => num_Digits_fe h) (fun r1 => ?_))
  | simp -implicitDefEqProofs only [go_sem, seval])
theorem num_millionths_fe {s_0} {s : Store} {r : Int}  (h : num_millionths s_0 = some r) : FE Go.Proofs.Tryz.prog 218 [.str s_0.b] s [.int .i64 r] s := num_millionths_fn  ⟨r, h, rfl, rfl⟩
def num_Check (v_0 : api_Value) : Option (Int) :=
 jnS (
  if v_0.Kind == 2 then
   some (.inl 2147483647)
  else
   if v_0.Kind == 3 then
    some (.inl 2147483647000000)
   else
    some (.inr (2 : Int))) (fun (limit2 : Int) =>
  if (((decide (v_0.N < w64 (0 - limit2))) || (decide (v_0.N > limit2))) || (!(v_0.S.b == (Str.mk []).b))) || (decide ((v_0.L.length : Int) > 0)) then
   some 2
  else
   some 0)
 (fun (t3 : Int) => some t3)
def ir_num_Check : IC :=
 (.seq (.reg none [i1 1 (.boxL 4 (.t 0)),
 mi 2 0] [1])
 (.seq (.reg none [mi 3 0] [1])
 (.join [(1, false), (3, false)] (.seq (.reg none [fa 4 0 1,
 ld 5 1 4] [1, 5])
 (.block 0 (.seq (.reg none [bn 7 .eql 5 2,
 mv 6 7] [1, 5, 6])
 (.cond (.t 6) (.reg none [mi 3 2147483647] [1, 3])
 (.seq (.reg none [bn 9 .eql 5 3,
 mv 8 9] [1, 8])
 (.cond (.t 8) (.reg none [mi 3 2147483647000000] [1, 3])
 (.seq (.reg none [mi 2 2] [2])
 .ret)))))))
 (.seq (.seq (.reg none [fa 10 1 1,
 ld 11 1 10,
 mv 12 3,
 i1 13 (.un .neg (.t 12)),
 bt 14 .lss 11 13,
 mv 15 14,
 fg 16 15 false 1 1,
 lg 17 15 false 1 16,
 mvg 18 3 15 false,
 i1g 19 15 false (.bin .gtr (.t 17) (.t 18)),
 po 20 15 19,
 mv 21 20,
 fg 22 21 false 2 1,
 lg 23 21 false 1 22,
 i1g 24 21 false (.bin .neq (.t 23) (.c (.str []))),
 po 25 21 24,
 mv 26 25,
 fg 27 26 false 3 1,
 lg 28 26 false 1 27,
 i1g 29 26 false (.len 0 (.t 28)),
 i1g 30 26 false (.bin .gtr (.t 29) (.c (.int .i64 0))),
 po 31 26 30] [31])
 (.cond (.t 31) (.seq (.reg none [mi 2 2] [2])
 .ret)
 .skip))
 (.seq (.reg none [mi 2 0] [2])
 .ret)))))
def res_num_Check : List IRes := [⟨2, true, none⟩]
theorem is_num_Check : fnIs Go.Proofs.Tryz.prog 66 32 res_num_Check ir_num_Check = true := by kernel_rfl
theorem num_Check_fn {v_0} {s : Store} {Q : List AV → Store → Prop}  : ok (num_Check v_0) (fun r => Q [.int .i64 r] s) → FN Go.Proofs.Tryz.prog 66 [.agg [.int .i64 v_0.Kind, .int .i64 v_0.N, .str v_0.S.b, .sl false 4 v_0.L.length (flat v_0.L)]] s Q := by
 intro h
 refine FN.of (draw_ok mix) is_num_Check rfl (Nat.le_of_ble_eq_true rfl) ?_
 revert h
 rw [ir_num_Check, res_num_Check, num_Check]
 repeat' (first
  | ((with_reducible refine join_toS (fun (limit2 : Int) => ⟨[(1, .loc [.int .i64 v_0.Kind, .int .i64 v_0.N, .str v_0.S.b, .sl false 4 v_0.L.length (flat v_0.L)]), (3, .int .i64 limit2)], [], s⟩) (fun J => ?_) ?_); rotate_left; rintro limit2)
  | simp -implicitDefEqProofs only [go_sem, seval])
theorem num_Check_fe {v_0} {s : Store} {r : Int}  (h : num_Check v_0 = some r) : FE Go.Proofs.Tryz.prog 66 [.agg [.int .i64 v_0.Kind, .int .i64 v_0.N, .str v_0.S.b, .sl false 4 v_0.L.length (flat v_0.L)]] s [.int .i64 r] s := num_Check_fn  ⟨r, h, rfl, rfl⟩
def num_Parse (s_0 : Str) : Option (api_Value × Int) :=
 jn (
  bnd (strings_HasPrefix s_0 (Str.mk [45])) fun r4 =>
  if r4 then
   need (0 ≤ (1 : Int) ∧ 1 ≤ (s_0.b.length : Int) ∧ (s_0.b.length : Int) ≤ s_0.b.length) <|
   some ((-1), Str.mk (part s_0.b 1 (s_0.b.length : Int)))
  else
   bnd (strings_HasPrefix s_0 (Str.mk [43])) fun r5 =>
   if r5 then
    need (0 ≤ (1 : Int) ∧ 1 ≤ (s_0.b.length : Int) ∧ (s_0.b.length : Int) ≤ s_0.b.length) <|
    some (1, Str.mk (part s_0.b 1 (s_0.b.length : Int)))
   else
    some (1, s_0)) fun ((sign2, body3) : Int × Str) =>
 bnd (strings_Cut body3 (Str.mk [46])) fun r6 =>
 bnd (whenB (!((w64 ((r6.1.b.length : Int) + (r6.2.1.b.length : Int))) == 0)) false (num_all r6.1)) fun r7 =>
 bnd (whenB (!(((w64 ((r6.1.b.length : Int) + (r6.2.1.b.length : Int))) == 0) || (!r7))) false (num_all r6.2.1)) fun r8 =>
 if (((w64 ((r6.1.b.length : Int) + (r6.2.1.b.length : Int))) == 0) || (!r7)) || (!r8) then
  some ((api_Value.mk 0 0 (Str.mk []) ([] : List api_Value)), 11)
 else
  need ((((Str.mk [48]).b.length + r6.1.b.length : Nat) : Int) ≤ hi64) <|
  bnd (num_Digits (Str.mk ((Str.mk [48]).b ++ r6.1.b))) fun r9 =>
  if r9.2 != 0 then
   some ((api_Value.mk 0 0 (Str.mk []) ([] : List api_Value)), r9.2)
  else
   if !r6.2.2 then
    some ((api_Value.mk 2 (w64 (sign2 * r9.1)) (Str.mk []) ([] : List api_Value)), 0)
   else
    bnd (num_millionths r6.2.1) fun r10 =>
    bnd (num_Check (api_Value.mk 3 (w64 (sign2 * (w64 ((w64 (r9.1 * 1000000)) + r10)))) (Str.mk []) ([] : List api_Value))) fun r11 =>
    if r11 != 0 then
     some ((api_Value.mk 0 0 (Str.mk []) ([] : List api_Value)), 5)
    else
     some ((api_Value.mk 3 (w64 (sign2 * (w64 ((w64 (r9.1 * 1000000)) + r10)))) (Str.mk []) ([] : List api_Value)), 0)
def ir_num_Parse : IC :=
 (.seq (.reg none [i1 2 (.allocL [.int .i64 0, .int .i64 0, .str [], .sl true 4 0 []]),
 mi 3 0] [0, 2])
 (.seq (.reg none [mi 4 1] [0, 2, 4])
 (.seq (.reg none [mv 12 0,
 mv 5 12] [0, 2, 4, 5])
 (.join [(2, false), (4, false), (5, false)] (.block 0 (.seq (.reg none [mv 14 0,
 i1 15 (.call 186 [(.t 14), (.c (.str [45]))]),
 mv 13 15] [0, 2, 4, 5, 13])
 (.cond (.t 13) (.reg (some 4) [mv 16 0,
 i1 17 (.sslice (.t 16) (some (.c (.int .i64 1))) none),
 mi 4 (-1),
 mv 5 17] [2, 4, 5])
 (.seq (.reg none [mv 19 0,
 i1 20 (.call 186 [(.t 19), (.c (.str [43]))]),
 mv 18 20] [0, 2, 4, 5, 18])
 (.cond (.t 18) (.reg none [mv 21 0,
 i1 22 (.sslice (.t 21) (some (.c (.int .i64 1))) none),
 mv 5 22] [2, 4, 5])
 .skip)))))
 (.seq (.reg none [mv 24 5,
 i1 25 (.call 215 [(.t 24), (.c (.str [46]))]),
 i1 23 (.movT (.t 25)),
 ex 26 23 0,
 ex 27 23 1,
 ex 28 23 2,
 mv 6 26,
 mv 7 27,
 mv 8 28] [2, 4, 6, 7, 8])
 (.seq (.seq (.reg (some 14) [mv 29 6,
 le 30 1 29,
 mv 31 7,
 le 32 1 31,
 bt 33 .add 30 32,
 bn 34 .eql 33 0,
 mv 35 34,
 mvg 36 6 35 false,
 i1g 37 35 false (.call 216 [(.t 36)]),
 i1g 38 35 false (.un .not (.t 37)),
 po 39 35 38,
 mv 40 39,
 mvg 41 7 40 false,
 i1g 42 40 false (.call 216 [(.t 41)]),
 i1g 43 40 false (.un .not (.t 42)),
 po 44 40 43] [2, 4, 6, 7, 8, 44])
 (.cond (.t 44) (.seq (.reg none [i1 45 (.build [.int .i64 0, .int .i64 0, .str [], .sl true 4 0 []] []),
 st 4 2 45,
 mi 3 11] [2, 3])
 .ret)
 .skip))
 (.seq (.reg none [mv 47 6,
 i1 48 (.bin .add (.c (.str [48])) (.t 47)),
 c1 49 217 48,
 i1 46 (.movT (.t 49)),
 ex 50 46 0,
 ex 51 46 1,
 mv 9 50,
 mv 10 51] [2, 4, 7, 8, 9, 10])
 (.seq (.seq (.reg none [mv 52 10,
 bn 53 .neq 52 0] [2, 4, 7, 8, 9, 10, 53])
 (.cond (.t 53) (.seq (.reg none [i1 54 (.build [.int .i64 0, .int .i64 0, .str [], .sl true 4 0 []] []),
 mv 55 10,
 st 4 2 54,
 mv 3 55] [2, 3])
 .ret)
 .skip))
 (.seq (.seq (.reg none [mv 56 8,
 no 57 56] [2, 4, 7, 9, 57])
 (.cond (.t 57) (.seq (.reg none [mv 58 4,
 mv 59 9,
 bt 60 .mul 58 59,
 i1 61 (.build [.int .i64 0, .int .i64 0, .str [], .sl true 4 0 []] [(0, 1, (.c (.int .i64 2))), (1, 1, (.t 60))]),
 st 4 2 61,
 mi 3 0] [2, 3])
 .ret)
 .skip))
 (.seq (.reg none [mv 62 4,
 mv 63 9,
 bn 64 .mul 63 1000000,
 mv 65 7,
 c1 66 218 65,
 bt 67 .add 64 66,
 bt 68 .mul 62 67,
 i1 69 (.build [.int .i64 0, .int .i64 0, .str [], .sl true 4 0 []] [(0, 1, (.c (.int .i64 3))), (1, 1, (.t 68))]),
 i1 11 (.allocL [.int .i64 0, .int .i64 0, .str [], .sl true 4 0 []]),
 st 4 11 69] [2, 11])
 (.seq (.seq (.reg none [lm 70 4 11,
 c1 71 66 70,
 bn 72 .neq 71 0] [2, 11, 72])
 (.cond (.t 72) (.seq (.reg none [i1 73 (.build [.int .i64 0, .int .i64 0, .str [], .sl true 4 0 []] []),
 st 4 2 73,
 mi 3 5] [2, 3])
 .ret)
 .skip))
 (.seq (.reg none [lm 74 4 11,
 st 4 2 74,
 mi 3 0] [2, 3])
 .ret))))))))))))
def res_num_Parse : List IRes := [⟨2, false, some (4, true)⟩, ⟨3, true, none⟩]
theorem is_num_Parse : fnIs Go.Proofs.Tryz.prog 170 75 res_num_Parse ir_num_Parse = true := by kernel_rfl
theorem num_Parse_fn {s_0} {s : Store} {Q : List AV → Store → Prop}  : ok (num_Parse s_0) (fun r => Q [.agg [.int .i64 r.1.Kind, .int .i64 r.1.N, .str r.1.S.b, .sl false 4 r.1.L.length (flat r.1.L)], .int .i64 r.2] s) → FN Go.Proofs.Tryz.prog 170 [.str s_0.b] s Q := by
 intro h
 refine FN.of (draw_ok mix) is_num_Parse rfl (Nat.le_of_ble_eq_true rfl) ?_
 revert h
 rw [ir_num_Parse, res_num_Parse, num_Parse]
 repeat' (first
  | with_reducible exact tt_to
  | with_reducible refine and_to ?_ ?_
  | with_reducible refine im_to ?_
  | with_reducible refine call_to (fun _ (h : strings_HasPrefix s_0 (Str.mk [45]) = some _) => strings_HasPrefix_fe h) (fun r4 => ?_)
  | with_reducible refine call_to (fun _ (h : strings_HasPrefix s_0 (Str.mk [43]) = some _) => strings_HasPrefix_fe h) (fun r5 => ?_)
  | with_reducible refine call_to (fun _ (h : strings_Cut body3 (Str.mk [46]) = some _) => strings_Cut_fe h) (fun r6 => ?_)
  | with_reducible refine call_to_g rfl (fun _ (h : num_all r6.1 = some _) => num_all_fe h) (fun _ => rfl) (fun r7 => ?_)
  | with_reducible refine call_to_g rfl (fun _ (h : num_all r6.2.1 = some _) => num_all_fe h) (fun _ => rfl) (fun r8 => ?_)
  | ((fail_if_success (have _x := r9)); with_reducible refine call_to (fun _ h => num_Digits_fe h) (fun r9 => ?_))
  | with_reducible refine call_to (fun _ (h : num_millionths r6.2.1 = some _) => num_millionths_fe h) (fun r10 => ?_)
  | with_reducible refine call_to (fun _ (h : num_Check (api_Value.mk 3 (w64 (sign2 * (w64 ((w64 (r9.1 * 1000000)) + r10)))) (Str.mk []) ([] : List api_Value)) = some _) => (by refine FE_cast ?_ (num_Check_fe h); simp -implicitDefEqProofs only [go_sem, seval])) (fun r11 => ?_)
  | ((with_reducible refine join_to (fun ((sign2, body3) : Int × Str) => ⟨[(2, .loc [.int .i64 0, .int .i64 0, .str (Str.mk []).b, .sl true 4 0 []]), (4, .int .i64 sign2), (5, .str body3.b)], [], s⟩) (fun J => ?_) ?_); rotate_left; rintro ⟨sign2, body3⟩)
  | simp -implicitDefEqProofs only [go_sem, seval])
theorem num_Parse_fe {s_0} {s : Store} {r : api_Value × Int}  (h : num_Parse s_0 = some r) : FE Go.Proofs.Tryz.prog 170 [.str s_0.b] s [.agg [.int .i64 r.1.Kind, .int .i64 r.1.N, .str r.1.S.b, .sl false 4 r.1.L.length (flat r.1.L)], .int .i64 r.2] s := num_Parse_fn  ⟨r, h, rfl, rfl⟩
def lex_scan_regulars (s_0 : lex_scan) : Option (lex_Token × Int × lex_scan) :=
 bnd (lex_scan_word s_0) fun r1 =>
 if !r1.2.1 then
  some ((lex_Token.mk 0 0 0 (api_Value.mk 0 0 (Str.mk []) ([] : List api_Value)) (Str.mk [])), 6, r1.2.2)
 else
  need (0 ≤ (0 : Int) ∧ (0 : Int) < r1.1.b.length) <|
  if ((((decide (((ix r1.1.b 0).toNat : Int) ≥ 48)) && (decide (((ix r1.1.b 0).toNat : Int) ≤ 57))) || (((ix r1.1.b 0).toNat : Int) == 43)) || (((ix r1.1.b 0).toNat : Int) == 45)) || (((ix r1.1.b 0).toNat : Int) == 46) then
   bnd (num_Parse r1.1) fun r2 =>
   some ((lex_Token.mk 1 0 0 r2.1 (Str.mk [])), r2.2, r1.2.2)
  else
   some ((lex_Token.mk 6 0 0 (api_Value.mk 0 0 (Str.mk []) ([] : List api_Value)) r1.1), 0, r1.2.2)
def ir_lex_scan_regulars : IC :=
 (.seq (.reg none [i1 2 (.allocL [.int .i64 0, .int .i64 0, .int .i64 0, .int .i64 0, .int .i64 0, .str [], .sl true 4 0 [], .str []]),
 mi 3 0] [0, 2])
 (.seq (.reg none [mv 10 0,
 c1 11 135 10,
 i1 9 (.movT (.t 11)),
 ex 12 9 0,
 ex 13 9 1,
 mv 4 12,
 mv 5 13] [2, 4, 5])
 (.seq (.seq (.reg none [mv 14 5,
 no 15 14] [2, 4, 15])
 (.cond (.t 15) (.seq (.reg none [i1 16 (.build [.int .i64 0, .int .i64 0, .int .i64 0, .int .i64 0, .int .i64 0, .str [], .sl true 4 0 [], .str []] []),
 st 8 2 16,
 mi 3 6] [2, 3])
 .ret)
 .skip))
 (.seq (.seq (.reg none [mv 17 4,
 i1 18 (.sindex (.t 17) (.c (.int .i64 0))),
 mv 6 18] [2, 4, 6])
 (.seq (.reg none [mv 19 6,
 bu 20 .geq 19 48,
 mv 21 20,
 mvg 22 6 21 true,
 i1g 23 21 true (.bin .leq (.t 22) (.c (.int .u8 57))),
 pf 24 21 23,
 mv 25 24,
 mvg 26 6 25 false,
 i1g 27 25 false (.bin .eql (.t 26) (.c (.int .u8 43))),
 po 28 25 27,
 mv 29 28,
 mvg 30 6 29 false,
 i1g 31 29 false (.bin .eql (.t 30) (.c (.int .u8 45))),
 po 32 29 31,
 mv 33 32,
 mvg 34 6 33 false,
 i1g 35 33 false (.bin .eql (.t 34) (.c (.int .u8 46))),
 po 36 33 35] [2, 4, 36])
 (.cond (.t 36) (.seq (.reg none [mv 38 4,
 c1 39 170 38,
 i1 37 (.movT (.t 39)),
 ex 40 37 0,
 ex 41 37 1,
 i1 7 (.allocL [.int .i64 0, .int .i64 0, .str [], .sl true 4 0 []]),
 st 4 7 40,
 mv 8 41] [2, 7, 8])
 (.seq (.reg none [lm 42 4 7,
 i1 43 (.build [.int .i64 0, .int .i64 0, .int .i64 0, .int .i64 0, .int .i64 0, .str [], .sl true 4 0 [], .str []] [(0, 1, (.c (.int .i64 1))), (3, 4, (.t 42))]),
 mv 44 8,
 st 8 2 43,
 mv 3 44] [2, 3])
 .ret))
 .skip)))
 (.seq (.reg none [mv 45 4,
 i1 46 (.build [.int .i64 0, .int .i64 0, .int .i64 0, .int .i64 0, .int .i64 0, .str [], .sl true 4 0 [], .str []] [(0, 1, (.c (.int .i64 6))), (7, 1, (.t 45))]),
 st 8 2 46,
 mi 3 0] [2, 3])
 .ret)))))
def res_lex_scan_regulars : List IRes := [⟨2, false, some (8, true)⟩, ⟨3, true, none⟩]
theorem is_lex_scan_regulars : fnIs Go.Proofs.Tryz.prog 131 47 res_lex_scan_regulars ir_lex_scan_regulars = true := by kernel_rfl
theorem lex_scan_regulars_fn {s_0} {B0 : Nat} {s : Store} {Q : List AV → Store → Prop} (hB0 : s B0 = some (.cells [bldA 145 B0 0 s_0.Builder, bldB s_0.Builder, .sl false 1 s_0.b_.length (flat s_0.b_), .int .i64 s_0.at_, .bool s_0.last_])) : ok (lex_scan_regulars s_0) (fun r => Q [.agg [.int .i64 r.1.Kind, .int .i64 r.1.From, .int .i64 r.1.To, .int .i64 r.1.V.Kind, .int .i64 r.1.V.N, .str r.1.V.S.b, .sl false 4 r.1.V.L.length (flat r.1.V.L), .str r.1.S.b], .int .i64 r.2.1] (s.set B0 (.cells [bldA 145 B0 0 r.2.2.Builder, bldB r.2.2.Builder, .sl false 1 r.2.2.b_.length (flat r.2.2.b_), .int .i64 r.2.2.at_, .bool r.2.2.last_]))) → FN Go.Proofs.Tryz.prog 131 [.ref B0 0] s Q := by
 have hS : s = (s.set B0 (.cells [bldA 145 B0 0 s_0.Builder, bldB s_0.Builder, .sl false 1 s_0.b_.length (flat s_0.b_), .int .i64 s_0.at_, .bool s_0.last_])) := by simp only [set_eq' hB0]
 rw [hS]
 intro h
 refine FN.of (draw_ok mix) is_lex_scan_regulars rfl (Nat.le_of_ble_eq_true rfl) ?_
 revert h
 rw [ir_lex_scan_regulars, res_lex_scan_regulars, lex_scan_regulars]
 repeat' (first
  | with_reducible exact tt_to
  | with_reducible refine and_to ?_ ?_
  | with_reducible refine im_to ?_
  | with_reducible refine fun hh => lex_scan_word_fn (B0 := B0) (by simp -implicitDefEqProofs only [go_sem, seval] <;> simp only [encM_nil])   (ok_mono (show ok (lex_scan_word s_0) _ from hh) fun r1 => ?_)
  | with_reducible refine call_to (fun _ (h : num_Parse r1.1 = some _) => num_Parse_fe h) (fun r2 => ?_)
  | simp -implicitDefEqProofs only [go_sem, seval])
def lex_scan_peek (s_0 : lex_scan) : Option (UInt8 × Bool) :=
 if decide (s_0.at_ ≥ (s_0.b_.length : Int)) then
  some (0, false)
 else
  need (0 ≤ s_0.at_ ∧ s_0.at_ < s_0.b_.length) <|
  some (ix s_0.b_ s_0.at_, true)
def ir_lex_scan_peek : IC :=
 (.seq (.reg none [mkk 2 (.int .u8 0),
 mkk 3 (.bool false)] [0])
 (.seq (.seq (.reg (some 10) [mv 4 0,
 nc 5 4,
 fa 6 3 5,
 i1 7 (.loadR [.int .i64 0] false (.t 6)),
 mv 8 0,
 nc 9 8,
 fa 10 2 9,
 i1 11 (.loadR [.sl false 1 0 []] false (.t 10)),
 le 12 0 11,
 bt 13 .geq 7 12] [0, 13])
 (.cond (.t 13) (.seq (.reg none [mkk 2 (.int .u8 0),
 mkk 3 (.bool false)] [2, 3])
 .ret)
 .skip))
 (.seq (.reg (some 12) [mv 14 0,
 nc 15 14,
 fa 16 2 15,
 i1 17 (.loadR [.sl false 1 0 []] false (.t 16)),
 mv 18 0,
 nc 19 18,
 fa 20 3 19,
 i1 21 (.loadR [.int .i64 0] false (.t 20)),
 ia 22 [.int .u8 0] 17 21,
 ld 23 1 22,
 mv 2 23,
 mkk 3 (.bool true)] [2, 3])
 .ret)))
def res_lex_scan_peek : List IRes := [⟨2, true, none⟩, ⟨3, true, none⟩]
theorem is_lex_scan_peek : fnIs Go.Proofs.Tryz.prog 171 24 res_lex_scan_peek ir_lex_scan_peek = true := by kernel_rfl
theorem lex_scan_peek_fn {s_0} {B0 : Nat} {s : Store} {Q : List AV → Store → Prop} (hB0 : s B0 = some (.cells [bldA 145 B0 0 s_0.Builder, bldB s_0.Builder, .sl false 1 s_0.b_.length (flat s_0.b_), .int .i64 s_0.at_, .bool s_0.last_])) : ok (lex_scan_peek s_0) (fun r => Q [.int .u8 r.1.toNat, .bool r.2] s) → FN Go.Proofs.Tryz.prog 171 [.ref B0 0] s Q := by
 have hS : s = (s.set B0 (.cells [bldA 145 B0 0 s_0.Builder, bldB s_0.Builder, .sl false 1 s_0.b_.length (flat s_0.b_), .int .i64 s_0.at_, .bool s_0.last_])) := by simp only [set_eq' hB0]
 rw [hS]
 intro h
 refine FN.of (draw_ok mix) is_lex_scan_peek rfl (Nat.le_of_ble_eq_true rfl) ?_
 revert h
 rw [ir_lex_scan_peek, res_lex_scan_peek, lex_scan_peek]
 repeat' (first
  | simp -implicitDefEqProofs only [go_sem, seval])
theorem lex_scan_peek_fe {s_0} {B0 : Nat} {s : Store} {r : UInt8 × Bool} (hB0 : s B0 = some (.cells [bldA 145 B0 0 s_0.Builder, bldB s_0.Builder, .sl false 1 s_0.b_.length (flat s_0.b_), .int .i64 s_0.at_, .bool s_0.last_])) (h : lex_scan_peek s_0 = some r) : FE Go.Proofs.Tryz.prog 171 [.ref B0 0] s [.int .u8 r.1.toNat, .bool r.2] s := lex_scan_peek_fn hB0 ⟨r, h, rfl, rfl⟩
def lex_scan_open (s_0 : lex_scan) : Option (Int) :=
 if s_0.last_ then
  some 10
 else
  some 6
def ir_lex_scan_open : IC :=
 (.seq (.reg none [mi 2 0] [0])
 (.seq (.seq (.reg none [mv 3 0,
 nc 4 3,
 fa 5 4 4,
 i1 6 (.loadR [.bool false] false (.t 5))] [6])
 (.cond (.t 6) (.seq (.reg none [mi 2 10] [2])
 .ret)
 .skip))
 (.seq (.reg none [mi 2 6] [2])
 .ret)))
def res_lex_scan_open : List IRes := [⟨2, true, none⟩]
theorem is_lex_scan_open : fnIs Go.Proofs.Tryz.prog 172 7 res_lex_scan_open ir_lex_scan_open = true := by kernel_rfl
theorem lex_scan_open_fn {s_0} {B0 : Nat} {s : Store} {Q : List AV → Store → Prop} (hB0 : s B0 = some (.cells [bldA 145 B0 0 s_0.Builder, bldB s_0.Builder, .sl false 1 s_0.b_.length (flat s_0.b_), .int .i64 s_0.at_, .bool s_0.last_])) : ok (lex_scan_open s_0) (fun r => Q [.int .i64 r] s) → FN Go.Proofs.Tryz.prog 172 [.ref B0 0] s Q := by
 have hS : s = (s.set B0 (.cells [bldA 145 B0 0 s_0.Builder, bldB s_0.Builder, .sl false 1 s_0.b_.length (flat s_0.b_), .int .i64 s_0.at_, .bool s_0.last_])) := by simp only [set_eq' hB0]
 rw [hS]
 intro h
 refine FN.of (draw_ok mix) is_lex_scan_open rfl (Nat.le_of_ble_eq_true rfl) ?_
 revert h
 rw [ir_lex_scan_open, res_lex_scan_open, lex_scan_open]
 repeat' (first
  | simp -implicitDefEqProofs only [go_sem, seval])
theorem lex_scan_open_fe {s_0} {B0 : Nat} {s : Store} {r : Int} (hB0 : s B0 = some (.cells [bldA 145 B0 0 s_0.Builder, bldB s_0.Builder, .sl false 1 s_0.b_.length (flat s_0.b_), .int .i64 s_0.at_, .bool s_0.last_])) (h : lex_scan_open s_0 = some r) : FE Go.Proofs.Tryz.prog 172 [.ref B0 0] s [.int .i64 r] s := lex_scan_open_fn hB0 ⟨r, h, rfl, rfl⟩
def lex_hex (c_0 : UInt8) : Option (Int) :=
 if (decide ((c_0.toNat : Int) ≥ 48)) && (decide ((c_0.toNat : Int) ≤ 57)) then
  some (w64 (((u8w ((c_0.toNat : Int) - 48)).toNat : Int)))
 else
  if (decide ((c_0.toNat : Int) ≥ 97)) && (decide ((c_0.toNat : Int) ≤ 102)) then
   some (w64 ((w64 (((u8w ((c_0.toNat : Int) - 97)).toNat : Int))) + 10))
  else
   if (decide ((c_0.toNat : Int) ≥ 65)) && (decide ((c_0.toNat : Int) ≤ 70)) then
    some (w64 ((w64 (((u8w ((c_0.toNat : Int) - 65)).toNat : Int))) + 10))
   else
    some (-1)
def ir_lex_hex : IC :=
 (.seq (.reg none [mi 2 0] [0])
 (.seq (.block 0 (.seq (.reg none [mv 4 0,
 bu 5 .geq 4 48,
 mv 6 5,
 mvg 7 0 6 true,
 i1g 8 6 true (.bin .leq (.t 7) (.c (.int .u8 57))),
 pf 9 6 8,
 mv 3 9] [0, 3])
 (.cond (.t 3) (.seq (.reg none [mv 10 0,
 bu 11 .sub 10 48,
 i1 12 (.cvtInt .i64 (.t 11)),
 mv 2 12] [2])
 .ret)
 (.seq (.reg none [mv 14 0,
 bu 15 .geq 14 97,
 mv 16 15,
 mvg 17 0 16 true,
 i1g 18 16 true (.bin .leq (.t 17) (.c (.int .u8 102))),
 pf 19 16 18,
 mv 13 19] [0, 13])
 (.cond (.t 13) (.seq (.reg none [mv 20 0,
 bu 21 .sub 20 97,
 i1 22 (.cvtInt .i64 (.t 21)),
 bn 23 .add 22 10,
 mv 2 23] [2])
 .ret)
 (.seq (.reg none [mv 25 0,
 bu 26 .geq 25 65,
 mv 27 26,
 mvg 28 0 27 true,
 i1g 29 27 true (.bin .leq (.t 28) (.c (.int .u8 70))),
 pf 30 27 29,
 mv 24 30] [0, 24])
 (.cond (.t 24) (.seq (.reg none [mv 31 0,
 bu 32 .sub 31 65,
 i1 33 (.cvtInt .i64 (.t 32)),
 bn 34 .add 33 10,
 mv 2 34] [2])
 .ret)
 .skip)))))))
 (.seq (.reg none [mi 2 (-1)] [2])
 .ret)))
def res_lex_hex : List IRes := [⟨2, true, none⟩]
theorem is_lex_hex : fnIs Go.Proofs.Tryz.prog 176 35 res_lex_hex ir_lex_hex = true := by kernel_rfl
theorem lex_hex_fn {c_0} {s : Store} {Q : List AV → Store → Prop}  : ok (lex_hex c_0) (fun r => Q [.int .i64 r] s) → FN Go.Proofs.Tryz.prog 176 [.int .u8 c_0.toNat] s Q := by
 intro h
 refine FN.of (draw_ok mix) is_lex_hex rfl (Nat.le_of_ble_eq_true rfl) ?_
 revert h
 rw [ir_lex_hex, res_lex_hex, lex_hex]
 repeat' (first
  | simp -implicitDefEqProofs only [go_sem, seval])
theorem lex_hex_fe {c_0} {s : Store} {r : Int}  (h : lex_hex c_0 = some r) : FE Go.Proofs.Tryz.prog 176 [.int .u8 c_0.toNat] s [.int .i64 r] s := lex_hex_fn  ⟨r, h, rfl, rfl⟩
def lex_scan_hexes (s_0 : lex_scan) : Option (api_Value × Int × lex_scan) :=
 iter (fun ((half1, o2) : Int × lex_scan) =>
  bnd (lex_scan_peek o2) fun r6 =>
  if !r6.2 then
   bnd (lex_scan_open o2) fun r7 =>
   some (.inr ((api_Value.mk 0 0 (Str.mk []) ([] : List api_Value)), r7, o2))
  else
   bnd (lex_hex r6.1) fun r8 =>
   jnS (
    if ((r6.1.toNat : Int) == 62) && (decide (half1 ≥ 0)) then
     bnd (strings_Builder_WriteByte o2.Builder (u8w (w64 (16 * half1)))) fun r15 =>
     bnd (strings_Builder_String r15.2) fun r16 =>
     some (.inr ((api_Value.mk 4 0 r16.1 ([] : List api_Value)), (0 : Int), (lex_scan.mk r16.2 o2.b_ (w64 (o2.at_ + 1)) o2.last_)))
    else
     if (r6.1.toNat : Int) == 62 then
      bnd (strings_Builder_String o2.Builder) fun r17 =>
      some (.inr ((api_Value.mk 4 0 r17.1 ([] : List api_Value)), (0 : Int), (lex_scan.mk r17.2 o2.b_ (w64 (o2.at_ + 1)) o2.last_)))
     else
      bnd (lex_Space r6.1) fun r18 =>
      if r18 then
       some (.inl (half1, (lex_scan.mk o2.Builder o2.b_ (w64 (o2.at_ + 1)) o2.last_)))
      else
       if decide (r8 < 0) then
        some (.inr ((api_Value.mk 0 0 (Str.mk []) ([] : List api_Value)), (11 : Int), (lex_scan.mk o2.Builder o2.b_ (w64 (o2.at_ + 1)) o2.last_)))
       else
        if decide (half1 < 0) then
         some (.inl (r8, (lex_scan.mk o2.Builder o2.b_ (w64 (o2.at_ + 1)) o2.last_)))
        else
         bnd (strings_Builder_WriteByte o2.Builder (u8w (w64 ((w64 (16 * half1)) + r8)))) fun r19 =>
         some (.inl ((-1), (lex_scan.mk r19.2 o2.b_ (w64 (o2.at_ + 1)) o2.last_)))) (fun ((half10, o11) : Int × lex_scan) =>
    some (.inl (half10, o11)))
   (fun ((t12, t13, o14) : api_Value × Int × lex_scan) => some (.inr (t12, t13, o14)))) ((-1), s_0)
def ir_lex_scan_hexes : IC :=
 (.seq (.reg none [i1 2 (.allocL [.int .i64 0, .int .i64 0, .str [], .sl true 4 0 []]),
 mi 3 0] [0, 2])
 (.scopeJ 0 [(0, false), (2, false), (4, false)] (.reg none [mi 4 (-1)] [0, 2, 4])
 .skip
 .skip
 (.seq (.reg none [mv 9 0,
 c1 10 171 9,
 i1 8 (.movT (.t 10)),
 ex 11 8 0,
 ex 12 8 1,
 mv 5 11,
 mv 6 12] [0, 2, 4, 5, 6])
 (.seq (.seq (.reg none [mv 13 6,
 no 14 13] [0, 2, 4, 5, 14])
 (.cond (.t 14) (.seq (.reg none [i1 15 (.build [.int .i64 0, .int .i64 0, .str [], .sl true 4 0 []] []),
 mv 16 0,
 c1 17 172 16,
 st 4 2 15,
 mv 3 17] [2, 3])
 .ret)
 .skip))
 (.seq (.reg none [mv 18 0,
 nc 19 18,
 fa 20 3 19,
 i1 21 (.loadR [.int .i64 0] false (.t 20)),
 bn 22 .add 21 1,
 nc 23 18,
 fa 24 3 23,
 st 1 24 22] [0, 2, 4, 5])
 (.seq (.reg none [mv 25 5,
 c1 26 176 25,
 mv 7 26] [0, 2, 4, 5, 7])
 (.join [(0, false), (2, false), (4, false)] (.block 0 (.seq (.reg none [mv 37 5,
 bu 38 .eql 37 62,
 mv 39 38,
 mvg 40 4 39 true,
 i1g 41 39 true (.bin .geq (.t 40) (.c (.int .i64 0))),
 pf 42 39 41,
 mv 36 42] [0, 2, 4, 5, 7, 36])
 (.cond (.t 36) (.seq (.reg none [mv 43 0,
 nc 44 43,
 fa 45 0 44,
 mv 46 4,
 i1 47 (.bin .mul (.c (.int .i64 16)) (.t 46)),
 i1 48 (.cvtInt .u8 (.t 47)),
 c2 49 79 45 48] [0, 2])
 (.seq (.reg none [mv 50 0,
 nc 51 50,
 fa 52 0 51,
 c1 53 45 52,
 i1 54 (.build [.int .i64 0, .int .i64 0, .str [], .sl true 4 0 []] [(0, 1, (.c (.int .i64 4))), (2, 1, (.t 53))]),
 st 4 2 54,
 mi 3 0] [2, 3])
 .ret))
 (.seq (.reg none [mv 56 5,
 bu 57 .eql 56 62,
 mv 55 57] [0, 2, 4, 5, 7, 55])
 (.cond (.t 55) (.seq (.reg none [mv 58 0,
 nc 59 58,
 fa 60 0 59,
 c1 61 45 60,
 i1 62 (.build [.int .i64 0, .int .i64 0, .str [], .sl true 4 0 []] [(0, 1, (.c (.int .i64 4))), (2, 1, (.t 61))]),
 st 4 2 62,
 mi 3 0] [2, 3])
 .ret)
 (.seq (.reg none [mv 64 5,
 c1 65 129 64,
 mv 63 65] [0, 2, 4, 7, 63])
 (.cond (.t 63) .skip
 (.seq (.reg none [mv 67 7,
 bn 68 .lss 67 0,
 mv 66 68] [0, 2, 4, 7, 66])
 (.cond (.t 66) (.seq (.reg none [i1 69 (.build [.int .i64 0, .int .i64 0, .str [], .sl true 4 0 []] []),
 st 4 2 69,
 mi 3 11] [2, 3])
 .ret)
 (.seq (.reg none [mv 71 4,
 bn 72 .lss 71 0,
 mv 70 72] [0, 2, 4, 7, 70])
 (.cond (.t 70) (.reg none [mv 73 7,
 mv 4 73] [0, 2, 4])
 (.seq (.reg none [mv 27 0,
 nc 28 27,
 fa 29 0 28,
 mv 30 4,
 i1 31 (.bin .mul (.c (.int .i64 16)) (.t 30)),
 mv 32 7,
 bt 33 .add 31 32,
 i1 34 (.cvtInt .u8 (.t 33)),
 c2 35 79 29 34] [0, 2])
 (.reg none [mi 4 (-1)] [0, 2, 4])))))))))))))
 (.goto 0))))))))
def res_lex_scan_hexes : List IRes := [⟨2, false, some (4, true)⟩, ⟨3, true, none⟩]
theorem is_lex_scan_hexes : fnIs Go.Proofs.Tryz.prog 173 74 res_lex_scan_hexes ir_lex_scan_hexes = true := by kernel_rfl
theorem lex_scan_hexes_fn {s_0} {B0 : Nat} {s : Store} {Q : List AV → Store → Prop} (hB0 : s B0 = some (.cells [bldA 145 B0 0 s_0.Builder, bldB s_0.Builder, .sl false 1 s_0.b_.length (flat s_0.b_), .int .i64 s_0.at_, .bool s_0.last_])) : ok (lex_scan_hexes s_0) (fun r => Q [.agg [.int .i64 r.1.Kind, .int .i64 r.1.N, .str r.1.S.b, .sl false 4 r.1.L.length (flat r.1.L)], .int .i64 r.2.1] (s.set B0 (.cells [bldA 145 B0 0 r.2.2.Builder, bldB r.2.2.Builder, .sl false 1 r.2.2.b_.length (flat r.2.2.b_), .int .i64 r.2.2.at_, .bool r.2.2.last_]))) → FN Go.Proofs.Tryz.prog 173 [.ref B0 0] s Q := by
 have hS : s = (s.set B0 (.cells [bldA 145 B0 0 s_0.Builder, bldB s_0.Builder, .sl false 1 s_0.b_.length (flat s_0.b_), .int .i64 s_0.at_, .bool s_0.last_])) := by simp only [set_eq' hB0]
 rw [hS]
 intro h
 refine FN.of (draw_ok mix) is_lex_scan_hexes rfl (Nat.le_of_ble_eq_true rfl) ?_
 revert h
 rw [ir_lex_scan_hexes, res_lex_scan_hexes, lex_scan_hexes]
 repeat' (first
  | with_reducible exact tt_to
  | with_reducible refine and_to ?_ ?_
  | with_reducible refine im_to ?_
  | with_reducible refine call_to (fun _ (h : lex_scan_peek o2 = some _) => lex_scan_peek_fe (B0 := B0) (by simp -implicitDefEqProofs only [go_sem, seval] <;> simp only [encM_nil])   h) (fun r6 => ?_)
  | with_reducible refine call_to (fun _ (h : lex_scan_open o2 = some _) => lex_scan_open_fe (B0 := B0) (by simp -implicitDefEqProofs only [go_sem, seval] <;> simp only [encM_nil])   h) (fun r7 => ?_)
  | with_reducible refine call_to (fun _ (h : lex_hex r6.1 = some _) => lex_hex_fe h) (fun r8 => ?_)
  | with_reducible refine fun hh => FN_cast (by simp -implicitDefEqProofs only [go_sem, seval]) (strings_Builder_WriteByte_fn (B0 := B0) (preB0 := []) (postB0 := [.sl false 1 o2.b_.length (flat o2.b_), .int .i64 (w64 (o2.at_ + 1)), .bool o2.last_]) (TB0 := 145) (by simp -implicitDefEqProofs only [go_sem, seval] <;> simp only [encM_nil]) (by first | rfl | simp) lies_145  (ok_mono (show ok (strings_Builder_WriteByte o2.Builder (u8w (w64 (16 * half1)))) _ from hh) fun r15 => ?_))
  | with_reducible refine fun hh => FN_cast (by simp -implicitDefEqProofs only [go_sem, seval]) (strings_Builder_String_fn (B0 := B0) (preB0 := []) (postB0 := [.sl false 1 o2.b_.length (flat o2.b_), .int .i64 (w64 (o2.at_ + 1)), .bool o2.last_]) (TB0 := 145) (by simp -implicitDefEqProofs only [go_sem, seval] <;> simp only [encM_nil]) (by first | rfl | simp) lies_145  (ok_mono (show ok (strings_Builder_String r15.2) _ from hh) fun r16 => ?_))
  | with_reducible refine fun hh => FN_cast (by simp -implicitDefEqProofs only [go_sem, seval]) (strings_Builder_String_fn (B0 := B0) (preB0 := []) (postB0 := [.sl false 1 o2.b_.length (flat o2.b_), .int .i64 (w64 (o2.at_ + 1)), .bool o2.last_]) (TB0 := 145) (by simp -implicitDefEqProofs only [go_sem, seval] <;> simp only [encM_nil]) (by first | rfl | simp) lies_145  (ok_mono (show ok (strings_Builder_String o2.Builder) _ from hh) fun r17 => ?_))
  | with_reducible refine call_to (fun _ (h : lex_Space r6.1 = some _) => lex_Space_fe h) (fun r18 => ?_)
  | with_reducible refine fun hh => FN_cast (by simp -implicitDefEqProofs only [go_sem, seval]) (strings_Builder_WriteByte_fn (B0 := B0) (preB0 := []) (postB0 := [.sl false 1 o2.b_.length (flat o2.b_), .int .i64 (w64 (o2.at_ + 1)), .bool o2.last_]) (TB0 := 145) (by simp -implicitDefEqProofs only [go_sem, seval] <;> simp only [encM_nil]) (by first | rfl | simp) lies_145  (ok_mono (show ok (strings_Builder_WriteByte o2.Builder (u8w (w64 ((w64 (16 * half1)) + r8)))) _ from hh) fun r19 => ?_))
  | ((with_reducible refine join_toS (fun ((half10, o11) : Int × lex_scan) => ⟨[(0, .ref B0 0), (2, .loc [.int .i64 0, .int .i64 0, .str (Str.mk []).b, .sl true 4 0 []]), (4, .int .i64 half10)], [], (s.set B0 (.cells [bldA 145 B0 0 o11.Builder, bldB o11.Builder, .sl false 1 o11.b_.length (flat o11.b_), .int .i64 o11.at_, .bool o11.last_]))⟩) (fun J => ?_) ?_); rotate_left; rintro ⟨half10, o11⟩)
  | ((with_reducible refine jump_to (fun ((half1, o2) : Int × lex_scan) => ⟨[(0, .ref B0 0), (2, .loc [.int .i64 0, .int .i64 0, .str (Str.mk []).b, .sl true 4 0 []]), (4, .int .i64 half1)], [], (s.set B0 (.cells [bldA 145 B0 0 o2.Builder, bldB o2.Builder, .sl false 1 o2.b_.length (flat o2.b_), .int .i64 o2.at_, .bool o2.last_]))⟩) ?_ ?_); (first | exact rfl | simp -implicitDefEqProofs only [go_sem, seval]); rintro J ⟨half1, o2⟩)
  | simp -implicitDefEqProofs only [go_sem, seval])
def lex_scan_opening (s_0 : lex_scan) : Option (lex_Token × Int × lex_scan) :=
 bnd (lex_scan_peek s_0) fun r1 =>
 if !r1.2 then
  bnd (lex_scan_open s_0) fun r2 =>
  some ((lex_Token.mk 0 0 0 (api_Value.mk 0 0 (Str.mk []) ([] : List api_Value)) (Str.mk [])), r2, s_0)
 else
  if (r1.1.toNat : Int) == 60 then
   some ((lex_Token.mk 4 0 0 (api_Value.mk 0 0 (Str.mk []) ([] : List api_Value)) (Str.mk [])), 0, (lex_scan.mk s_0.Builder s_0.b_ (w64 (s_0.at_ + 1)) s_0.last_))
  else
   bnd (lex_scan_hexes s_0) fun r3 =>
   some ((lex_Token.mk 1 0 0 r3.1 (Str.mk [])), r3.2.1, r3.2.2)
def ir_lex_scan_opening : IC :=
 (.seq (.reg none [i1 2 (.allocL [.int .i64 0, .int .i64 0, .int .i64 0, .int .i64 0, .int .i64 0, .str [], .sl true 4 0 [], .str []]),
 mi 3 0] [0, 2])
 (.seq (.reg none [mv 9 0,
 c1 10 171 9,
 i1 8 (.movT (.t 10)),
 ex 11 8 0,
 ex 12 8 1,
 mv 4 11,
 mv 5 12] [0, 2, 4, 5])
 (.seq (.seq (.reg none [mv 13 5,
 no 14 13] [0, 2, 4, 14])
 (.cond (.t 14) (.seq (.reg none [i1 15 (.build [.int .i64 0, .int .i64 0, .int .i64 0, .int .i64 0, .int .i64 0, .str [], .sl true 4 0 [], .str []] []),
 mv 16 0,
 c1 17 172 16,
 st 8 2 15,
 mv 3 17] [2, 3])
 .ret)
 .skip))
 (.seq (.seq (.reg none [mv 18 4,
 bu 19 .eql 18 60] [0, 2, 19])
 (.cond (.t 19) (.seq (.reg none [mv 20 0,
 nc 21 20,
 fa 22 3 21,
 i1 23 (.loadR [.int .i64 0] false (.t 22)),
 bn 24 .add 23 1,
 nc 25 20,
 fa 26 3 25,
 st 1 26 24] [2])
 (.seq (.reg none [i1 27 (.build [.int .i64 0, .int .i64 0, .int .i64 0, .int .i64 0, .int .i64 0, .str [], .sl true 4 0 [], .str []] [(0, 1, (.c (.int .i64 4)))]),
 st 8 2 27,
 mi 3 0] [2, 3])
 .ret))
 .skip))
 (.seq (.reg none [mv 29 0,
 c1 30 173 29,
 i1 28 (.movT (.t 30)),
 ex 31 28 0,
 ex 32 28 1,
 i1 6 (.allocL [.int .i64 0, .int .i64 0, .str [], .sl true 4 0 []]),
 st 4 6 31,
 mv 7 32] [2, 6, 7])
 (.seq (.reg none [lm 33 4 6,
 i1 34 (.build [.int .i64 0, .int .i64 0, .int .i64 0, .int .i64 0, .int .i64 0, .str [], .sl true 4 0 [], .str []] [(0, 1, (.c (.int .i64 1))), (3, 4, (.t 33))]),
 mv 35 7,
 st 8 2 34,
 mv 3 35] [2, 3])
 .ret))))))
def res_lex_scan_opening : List IRes := [⟨2, false, some (8, true)⟩, ⟨3, true, none⟩]
theorem is_lex_scan_opening : fnIs Go.Proofs.Tryz.prog 132 36 res_lex_scan_opening ir_lex_scan_opening = true := by kernel_rfl
theorem lex_scan_opening_fn {s_0} {B0 : Nat} {s : Store} {Q : List AV → Store → Prop} (hB0 : s B0 = some (.cells [bldA 145 B0 0 s_0.Builder, bldB s_0.Builder, .sl false 1 s_0.b_.length (flat s_0.b_), .int .i64 s_0.at_, .bool s_0.last_])) : ok (lex_scan_opening s_0) (fun r => Q [.agg [.int .i64 r.1.Kind, .int .i64 r.1.From, .int .i64 r.1.To, .int .i64 r.1.V.Kind, .int .i64 r.1.V.N, .str r.1.V.S.b, .sl false 4 r.1.V.L.length (flat r.1.V.L), .str r.1.S.b], .int .i64 r.2.1] (s.set B0 (.cells [bldA 145 B0 0 r.2.2.Builder, bldB r.2.2.Builder, .sl false 1 r.2.2.b_.length (flat r.2.2.b_), .int .i64 r.2.2.at_, .bool r.2.2.last_]))) → FN Go.Proofs.Tryz.prog 132 [.ref B0 0] s Q := by
 have hS : s = (s.set B0 (.cells [bldA 145 B0 0 s_0.Builder, bldB s_0.Builder, .sl false 1 s_0.b_.length (flat s_0.b_), .int .i64 s_0.at_, .bool s_0.last_])) := by simp only [set_eq' hB0]
 rw [hS]
 intro h
 refine FN.of (draw_ok mix) is_lex_scan_opening rfl (Nat.le_of_ble_eq_true rfl) ?_
 revert h
 rw [ir_lex_scan_opening, res_lex_scan_opening, lex_scan_opening]
 repeat' (first
  | with_reducible exact tt_to
  | with_reducible refine and_to ?_ ?_
  | with_reducible refine im_to ?_
  | with_reducible refine call_to (fun _ (h : lex_scan_peek s_0 = some _) => lex_scan_peek_fe (B0 := B0) (by simp -implicitDefEqProofs only [go_sem, seval] <;> simp only [encM_nil])   h) (fun r1 => ?_)
  | with_reducible refine call_to (fun _ (h : lex_scan_open s_0 = some _) => lex_scan_open_fe (B0 := B0) (by simp -implicitDefEqProofs only [go_sem, seval] <;> simp only [encM_nil])   h) (fun r2 => ?_)
  | with_reducible refine fun hh => lex_scan_hexes_fn (B0 := B0) (by simp -implicitDefEqProofs only [go_sem, seval] <;> simp only [encM_nil])   (ok_mono (show ok (lex_scan_hexes s_0) _ from hh) fun r3 => ?_)
  | simp -implicitDefEqProofs only [go_sem, seval])
def lex_scan_closing (s_0 : lex_scan) : Option (lex_Token × Int × lex_scan) :=
 bnd (lex_scan_peek s_0) fun r1 =>
 if (!r1.2) && (!s_0.last_) then
  some ((lex_Token.mk 0 0 0 (api_Value.mk 0 0 (Str.mk []) ([] : List api_Value)) (Str.mk [])), 6, s_0)
 else
  if (!r1.2) || ((r1.1.toNat : Int) != 62) then
   some ((lex_Token.mk 0 0 0 (api_Value.mk 0 0 (Str.mk []) ([] : List api_Value)) (Str.mk [])), 11, s_0)
  else
   some ((lex_Token.mk 5 0 0 (api_Value.mk 0 0 (Str.mk []) ([] : List api_Value)) (Str.mk [])), 0, (lex_scan.mk s_0.Builder s_0.b_ (w64 (s_0.at_ + 1)) s_0.last_))
def ir_lex_scan_closing : IC :=
 (.seq (.reg none [i1 2 (.allocL [.int .i64 0, .int .i64 0, .int .i64 0, .int .i64 0, .int .i64 0, .str [], .sl true 4 0 [], .str []]),
 mi 3 0] [0, 2])
 (.seq (.reg none [mv 7 0,
 c1 8 171 7,
 i1 6 (.movT (.t 8)),
 ex 9 6 0,
 ex 10 6 1,
 mv 4 9,
 mv 5 10] [0, 2, 4, 5])
 (.seq (.block 0 (.seq (.reg none [mv 12 5,
 no 13 12,
 mv 14 13,
 mvg 15 0 14 true,
 i1g 16 14 true (.nilCheck (.t 15)),
 fg 17 14 true 4 16,
 i1g 18 14 true (.loadR [.bool false] false (.t 17)),
 i1g 19 14 true (.un .not (.t 18)),
 pf 20 14 19,
 mv 11 20] [0, 2, 4, 5, 11])
 (.cond (.t 11) (.seq (.reg none [i1 21 (.build [.int .i64 0, .int .i64 0, .int .i64 0, .int .i64 0, .int .i64 0, .str [], .sl true 4 0 [], .str []] []),
 st 8 2 21,
 mi 3 6] [2, 3])
 .ret)
 (.seq (.reg none [mv 23 5,
 no 24 23,
 mv 25 24,
 mvg 26 4 25 false,
 i1g 27 25 false (.bin .neq (.t 26) (.c (.int .u8 62))),
 po 28 25 27,
 mv 22 28] [0, 2, 22])
 (.cond (.t 22) (.seq (.reg none [i1 29 (.build [.int .i64 0, .int .i64 0, .int .i64 0, .int .i64 0, .int .i64 0, .str [], .sl true 4 0 [], .str []] []),
 st 8 2 29,
 mi 3 11] [2, 3])
 .ret)
 .skip)))))
 (.seq (.reg none [mv 30 0,
 nc 31 30,
 fa 32 3 31,
 i1 33 (.loadR [.int .i64 0] false (.t 32)),
 bn 34 .add 33 1,
 nc 35 30,
 fa 36 3 35,
 st 1 36 34] [2])
 (.seq (.reg none [i1 37 (.build [.int .i64 0, .int .i64 0, .int .i64 0, .int .i64 0, .int .i64 0, .str [], .sl true 4 0 [], .str []] [(0, 1, (.c (.int .i64 5)))]),
 st 8 2 37,
 mi 3 0] [2, 3])
 .ret)))))
def res_lex_scan_closing : List IRes := [⟨2, false, some (8, true)⟩, ⟨3, true, none⟩]
theorem is_lex_scan_closing : fnIs Go.Proofs.Tryz.prog 133 38 res_lex_scan_closing ir_lex_scan_closing = true := by kernel_rfl
theorem lex_scan_closing_fn {s_0} {B0 : Nat} {s : Store} {Q : List AV → Store → Prop} (hB0 : s B0 = some (.cells [bldA 145 B0 0 s_0.Builder, bldB s_0.Builder, .sl false 1 s_0.b_.length (flat s_0.b_), .int .i64 s_0.at_, .bool s_0.last_])) : ok (lex_scan_closing s_0) (fun r => Q [.agg [.int .i64 r.1.Kind, .int .i64 r.1.From, .int .i64 r.1.To, .int .i64 r.1.V.Kind, .int .i64 r.1.V.N, .str r.1.V.S.b, .sl false 4 r.1.V.L.length (flat r.1.V.L), .str r.1.S.b], .int .i64 r.2.1] (s.set B0 (.cells [bldA 145 B0 0 r.2.2.Builder, bldB r.2.2.Builder, .sl false 1 r.2.2.b_.length (flat r.2.2.b_), .int .i64 r.2.2.at_, .bool r.2.2.last_]))) → FN Go.Proofs.Tryz.prog 133 [.ref B0 0] s Q := by
 have hS : s = (s.set B0 (.cells [bldA 145 B0 0 s_0.Builder, bldB s_0.Builder, .sl false 1 s_0.b_.length (flat s_0.b_), .int .i64 s_0.at_, .bool s_0.last_])) := by simp only [set_eq' hB0]
 rw [hS]
 intro h
 refine FN.of (draw_ok mix) is_lex_scan_closing rfl (Nat.le_of_ble_eq_true rfl) ?_
 revert h
 rw [ir_lex_scan_closing, res_lex_scan_closing, lex_scan_closing]
 repeat' (first
  | with_reducible refine call_to (fun _ (h : lex_scan_peek s_0 = some _) => lex_scan_peek_fe (B0 := B0) (by simp -implicitDefEqProofs only [go_sem, seval] <;> simp only [encM_nil])   h) (fun r1 => ?_)
  | simp -implicitDefEqProofs only [go_sem, seval])
def lex_scan_octal (s_0 : lex_scan) (c_1 : UInt8) : Option (Bool × lex_scan) :=
 jnS (
  bndS (
   iter (fun ((n5, k6, o7) : Int × Int × lex_scan) =>
    if decide (k6 < 2) then
     bnd (lex_scan_peek o7) fun r12 =>
     if !r12.2 then
      if o7.last_ then
       bnd (strings_Builder_WriteByte o7.Builder (u8w (n5))) fun r13 =>
       some (.inr (.inr (o7.last_ || false, (lex_scan.mk r13.2 o7.b_ o7.at_ o7.last_))))
      else
       some (.inr (.inr (o7.last_ || false, o7)))
     else
      if (decide ((r12.1.toNat : Int) < 48)) || (decide ((r12.1.toNat : Int) > 55)) then
       some (.inr (.inl (n5, o7)))
      else
       some (.inl (w64 ((w64 (8 * n5)) + (w64 (((u8w ((r12.1.toNat : Int) - 48)).toNat : Int)))), w64 (k6 + 1), (lex_scan.mk o7.Builder o7.b_ (w64 (o7.at_ + 1)) o7.last_)))
    else
     some (.inr (.inl (n5, o7)))) (w64 (((u8w ((c_1.toNat : Int) - 48)).toNat : Int)), 0, s_0)) (fun ((n8, o9) : Int × lex_scan) =>
   some (.inl (n8, o9)))
  (fun ((t10, o11) : Bool × lex_scan) => some (.inr (t10, o11)))) (fun ((n1, o2) : Int × lex_scan) =>
  bnd (strings_Builder_WriteByte o2.Builder (u8w (n1))) fun r14 =>
  some (true, (lex_scan.mk r14.2 o2.b_ o2.at_ o2.last_)))
 (fun ((t3, o4) : Bool × lex_scan) => some (t3, o4))
def ir_lex_scan_octal : IC :=
 (.seq (.reg none [mkk 4 (.bool false)] [0, 1])
 (.seq (.reg none [mv 9 1,
 bu 10 .sub 9 48,
 i1 11 (.cvtInt .i64 (.t 10)),
 mv 5 11] [0, 5])
 (.join [(0, false), (5, false)] (.seq (.reg none [mi 6 0] [0, 5, 6])
 (.block 0 (.loop [(0, false), (5, false), (6, false)] (.seq (.seq (.reg none [mv 12 6,
 bn 13 .lss 12 2] [0, 5, 6, 13])
 (.cond (.t 13) .skip
 (.exit 0)))
 (.seq (.block 1 (.seq (.reg none [mv 17 0,
 c1 18 171 17,
 i1 16 (.movT (.t 18)),
 ex 19 16 0,
 ex 20 16 1,
 mv 7 19,
 mv 8 20] [0, 5, 6, 7, 8])
 (.seq (.seq (.reg none [mv 21 8,
 no 22 21] [0, 5, 6, 7, 22])
 (.cond (.t 22) (.seq (.reg none [mv 23 0,
 nc 24 23,
 fa 25 4 24,
 i1 26 (.loadR [.bool false] false (.t 25)),
 mv 27 26,
 mvg 28 0 27 true,
 i1g 29 27 true (.nilCheck (.t 28)),
 fg 30 27 true 0 29,
 mvg 31 5 27 true,
 i1g 32 27 true (.cvtInt .u8 (.t 31)),
 i1g 33 27 true (.call 79 [(.t 30), (.t 32)]),
 i1g 34 27 true (.eqI false (.t 33)),
 pf 35 27 34,
 mv 4 35] [4])
 .ret)
 .skip))
 (.seq (.seq (.reg none [mv 36 7,
 bu 37 .lss 36 48,
 mv 38 37,
 mvg 39 7 38 false,
 i1g 40 38 false (.bin .gtr (.t 39) (.c (.int .u8 55))),
 po 41 38 40] [0, 5, 6, 7, 41])
 (.cond (.t 41) (.exit 0)
 .skip))
 (.seq (.reg none [mv 42 5,
 i1 43 (.bin .mul (.c (.int .i64 8)) (.t 42)),
 mv 44 7,
 bu 45 .sub 44 48,
 i1 46 (.cvtInt .i64 (.t 45)),
 bt 47 .add 43 46,
 mv 5 47] [0, 5, 6])
 (.reg none [mv 48 0,
 nc 49 48,
 fa 50 3 49,
 i1 51 (.loadR [.int .i64 0] false (.t 50)),
 bn 52 .add 51 1,
 nc 53 48,
 fa 54 3 53,
 st 1 54 52] [0, 5, 6]))))))
 (.reg none [mv 14 6,
 bn 15 .add 14 1,
 mv 6 15] [0, 5, 6]))))))
 (.seq (.reg none [mv 55 0,
 nc 56 55,
 fa 57 0 56,
 mv 58 5,
 i1 59 (.cvtInt .u8 (.t 58)),
 c2 60 79 57 59,
 i1 61 (.eqI false (.t 60)),
 mv 4 61] [4])
 .ret))))
def res_lex_scan_octal : List IRes := [⟨4, true, none⟩]
theorem is_lex_scan_octal : fnIs Go.Proofs.Tryz.prog 219 62 res_lex_scan_octal ir_lex_scan_octal = true := by kernel_rfl
theorem lex_scan_octal_fn {s_0 c_1} {B0 : Nat} {s : Store} {Q : List AV → Store → Prop} (hB0 : s B0 = some (.cells [bldA 145 B0 0 s_0.Builder, bldB s_0.Builder, .sl false 1 s_0.b_.length (flat s_0.b_), .int .i64 s_0.at_, .bool s_0.last_])) : ok (lex_scan_octal s_0 c_1) (fun r => Q [.bool r.1] (s.set B0 (.cells [bldA 145 B0 0 r.2.Builder, bldB r.2.Builder, .sl false 1 r.2.b_.length (flat r.2.b_), .int .i64 r.2.at_, .bool r.2.last_]))) → FN Go.Proofs.Tryz.prog 219 [.ref B0 0, .int .u8 c_1.toNat] s Q := by
 have hS : s = (s.set B0 (.cells [bldA 145 B0 0 s_0.Builder, bldB s_0.Builder, .sl false 1 s_0.b_.length (flat s_0.b_), .int .i64 s_0.at_, .bool s_0.last_])) := by simp only [set_eq' hB0]
 rw [hS]
 intro h
 refine FN.of (draw_ok mix) is_lex_scan_octal rfl (Nat.le_of_ble_eq_true rfl) ?_
 revert h
 rw [ir_lex_scan_octal, res_lex_scan_octal, lex_scan_octal]
 repeat' (first
  | ((fail_if_success (have _x := hgG1)); (have _x := o7.last_); clear _x; cases hgG1 : o7.last_)
  | with_reducible exact tt_to
  | with_reducible refine and_to ?_ ?_
  | with_reducible refine im_to ?_
  | with_reducible refine call_to (fun _ (h : lex_scan_peek o7 = some _) => lex_scan_peek_fe (B0 := B0) (by first | (simp -implicitDefEqProofs only [go_sem, seval, hgG0]; done) | (simp -implicitDefEqProofs only [go_sem, seval, hgG1]; done) | (simp -implicitDefEqProofs only [go_sem, seval, hgG2]; done) | (simp -implicitDefEqProofs only [go_sem, seval]; done))   h) (fun r12 => ?_)
  | with_reducible refine fun hh => FN_cast (by simp -implicitDefEqProofs only [go_sem, seval]) (strings_Builder_WriteByte_fn (B0 := B0) (preB0 := []) (postB0 := [.sl false 1 o7.b_.length (flat o7.b_), .int .i64 o7.at_, .bool o7.last_]) (TB0 := 145) (by first | (simp -implicitDefEqProofs only [go_sem, seval, hgG0]; done) | (simp -implicitDefEqProofs only [go_sem, seval, hgG1]; done) | (simp -implicitDefEqProofs only [go_sem, seval, hgG2]; done) | (simp -implicitDefEqProofs only [go_sem, seval]; done)) (by first | rfl | simp) lies_145  (ok_mono (show ok (strings_Builder_WriteByte o7.Builder (u8w (n5))) _ from hh) fun r13 => ?_))
  | with_reducible refine fun hh => FN_cast (by simp -implicitDefEqProofs only [go_sem, seval]) (strings_Builder_WriteByte_fn (B0 := B0) (preB0 := []) (postB0 := [.sl false 1 o2.b_.length (flat o2.b_), .int .i64 o2.at_, .bool o2.last_]) (TB0 := 145) (by first | (simp -implicitDefEqProofs only [go_sem, seval, hgG0]; done) | (simp -implicitDefEqProofs only [go_sem, seval, hgG1]; done) | (simp -implicitDefEqProofs only [go_sem, seval, hgG2]; done) | (simp -implicitDefEqProofs only [go_sem, seval]; done)) (by first | rfl | simp) lies_145  (ok_mono (show ok (strings_Builder_WriteByte o2.Builder (u8w (n1))) _ from hh) fun r14 => ?_))
  | ((with_reducible refine iter_to (fun ((n5, k6, o7) : Int × Int × lex_scan) => ⟨[(0, .ref B0 0), (5, .int .i64 n5), (6, .int .i64 k6)], [], (s.set B0 (.cells [bldA 145 B0 0 o7.Builder, bldB o7.Builder, .sl false 1 o7.b_.length (flat o7.b_), .int .i64 o7.at_, .bool o7.last_]))⟩) ?_ ?_); (first | exact rfl | simp -implicitDefEqProofs only [go_sem, seval]); rintro J ⟨n5, k6, o7⟩)
  | ((with_reducible refine join_toS (fun ((n1, o2) : Int × lex_scan) => ⟨[(0, .ref B0 0), (5, .int .i64 n1)], [], (s.set B0 (.cells [bldA 145 B0 0 o2.Builder, bldB o2.Builder, .sl false 1 o2.b_.length (flat o2.b_), .int .i64 o2.at_, .bool o2.last_]))⟩) (fun J => ?_) ?_); rotate_left; rintro ⟨n1, o2⟩)
  | simp -implicitDefEqProofs only [go_sem, seval, hgG1, Bool.false_eq_true, if_false, if_true, Bool.true_eq_false, false_implies, true_implies, true_and, and_true]
  | simp -implicitDefEqProofs only [go_sem, seval])
def lex_scan_line (s_0 : lex_scan) (c_1 : UInt8) : Option (Bool × lex_scan) :=
 if (c_1.toNat : Int) != 13 then
  some (true, s_0)
 else
  bnd (lex_scan_peek s_0) fun r1 =>
  jn (
   if r1.2 && ((r1.1.toNat : Int) == 10) then
    some (lex_scan.mk s_0.Builder s_0.b_ (w64 (s_0.at_ + 1)) s_0.last_)
   else
    some s_0) fun (o3 : lex_scan) =>
  some (r1.2 || o3.last_, o3)
def ir_lex_scan_line : IC :=
 (.seq (.reg none [mkk 4 (.bool false)] [0, 1])
 (.seq (.seq (.reg none [mv 7 1,
 bu 8 .neq 7 13] [0, 8])
 (.cond (.t 8) (.seq (.reg none [mkk 4 (.bool true)] [4])
 .ret)
 .skip))
 (.seq (.reg none [mv 10 0,
 c1 11 171 10,
 i1 9 (.movT (.t 11)),
 ex 12 9 0,
 ex 13 9 1,
 mv 5 12,
 mv 6 13] [0, 5, 6])
 (.join [(0, false), (6, false)] (.seq (.reg none [mv 14 6,
 mv 15 14,
 mvg 16 5 15 true,
 i1g 17 15 true (.bin .eql (.t 16) (.c (.int .u8 10))),
 pf 18 15 17] [0, 6, 18])
 (.cond (.t 18) (.reg none [mv 19 0,
 nc 20 19,
 fa 21 3 20,
 i1 22 (.loadR [.int .i64 0] false (.t 21)),
 bn 23 .add 22 1,
 nc 24 19,
 fa 25 3 24,
 st 1 25 23] [0, 6])
 .skip))
 (.seq (.reg none [mv 26 6,
 mv 27 26,
 mvg 28 0 27 false,
 i1g 29 27 false (.nilCheck (.t 28)),
 fg 30 27 false 4 29,
 i1g 31 27 false (.loadR [.bool false] false (.t 30)),
 po 32 27 31,
 mv 4 32] [4])
 .ret)))))
def res_lex_scan_line : List IRes := [⟨4, true, none⟩]
theorem is_lex_scan_line : fnIs Go.Proofs.Tryz.prog 175 33 res_lex_scan_line ir_lex_scan_line = true := by kernel_rfl
theorem lex_scan_line_fn {s_0 c_1} {B0 : Nat} {s : Store} {Q : List AV → Store → Prop} (hB0 : s B0 = some (.cells [bldA 145 B0 0 s_0.Builder, bldB s_0.Builder, .sl false 1 s_0.b_.length (flat s_0.b_), .int .i64 s_0.at_, .bool s_0.last_])) : ok (lex_scan_line s_0 c_1) (fun r => Q [.bool r.1] (s.set B0 (.cells [bldA 145 B0 0 r.2.Builder, bldB r.2.Builder, .sl false 1 r.2.b_.length (flat r.2.b_), .int .i64 r.2.at_, .bool r.2.last_]))) → FN Go.Proofs.Tryz.prog 175 [.ref B0 0, .int .u8 c_1.toNat] s Q := by
 have hS : s = (s.set B0 (.cells [bldA 145 B0 0 s_0.Builder, bldB s_0.Builder, .sl false 1 s_0.b_.length (flat s_0.b_), .int .i64 s_0.at_, .bool s_0.last_])) := by simp only [set_eq' hB0]
 rw [hS]
 intro h
 refine FN.of (draw_ok mix) is_lex_scan_line rfl (Nat.le_of_ble_eq_true rfl) ?_
 revert h
 rw [ir_lex_scan_line, res_lex_scan_line, lex_scan_line]
 repeat' (first
  | with_reducible exact tt_to
  | with_reducible refine and_to ?_ ?_
  | with_reducible refine im_to ?_
  | with_reducible refine call_to (fun _ (h : lex_scan_peek s_0 = some _) => lex_scan_peek_fe (B0 := B0) (by simp -implicitDefEqProofs only [go_sem, seval] <;> simp only [encM_nil])   h) (fun r1 => ?_)
  | ((with_reducible refine join_to (fun (o3 : lex_scan) => ⟨[(0, .ref B0 0), (6, .bool r1.2)], [], (s.set B0 (.cells [bldA 145 B0 0 o3.Builder, bldB o3.Builder, .sl false 1 o3.b_.length (flat o3.b_), .int .i64 o3.at_, .bool o3.last_]))⟩) (fun J => ?_) ?_); rotate_left; rintro o3)
  | simp -implicitDefEqProofs only [go_sem, seval])
def lex_scan_escape (s_0 : lex_scan) : Option (Bool × lex_scan) :=
 bnd (lex_scan_peek s_0) fun r1 =>
 if !r1.2 then
  some (false, s_0)
 else
  bnd (strings_IndexByte (Str.mk [110, 114, 116, 98, 102]) r1.1) fun r2 =>
  if decide (r2 ≥ 0) then
   need (0 ≤ r2 ∧ r2 < (Str.mk [10, 13, 9, 8, 12]).b.length) <|
   bnd (strings_Builder_WriteByte s_0.Builder (ix (Str.mk [10, 13, 9, 8, 12]).b r2)) fun r3 =>
   some (true, (lex_scan.mk r3.2 s_0.b_ (w64 (s_0.at_ + 1)) s_0.last_))
  else
   if (decide ((r1.1.toNat : Int) ≥ 48)) && (decide ((r1.1.toNat : Int) ≤ 55)) then
    bnd (lex_scan_octal (lex_scan.mk s_0.Builder s_0.b_ (w64 (s_0.at_ + 1)) s_0.last_) r1.1) fun r4 =>
    some (r4.1, r4.2)
   else
    if ((r1.1.toNat : Int) == 10) || ((r1.1.toNat : Int) == 13) then
     bnd (lex_scan_line (lex_scan.mk s_0.Builder s_0.b_ (w64 (s_0.at_ + 1)) s_0.last_) r1.1) fun r5 =>
     some (r5.1, r5.2)
    else
     bnd (strings_Builder_WriteByte s_0.Builder r1.1) fun r6 =>
     some (true, (lex_scan.mk r6.2 s_0.b_ (w64 (s_0.at_ + 1)) s_0.last_))
def ir_lex_scan_escape : IC :=
 (.seq (.reg none [mkk 2 (.bool false)] [0])
 (.seq (.reg none [mv 7 0,
 c1 8 171 7,
 i1 6 (.movT (.t 8)),
 ex 9 6 0,
 ex 10 6 1,
 mv 3 9,
 mv 4 10] [0, 3, 4])
 (.seq (.seq (.reg none [mv 11 4,
 no 12 11] [0, 3, 12])
 (.cond (.t 12) (.seq (.reg none [mkk 2 (.bool false)] [2])
 .ret)
 .skip))
 (.seq (.reg none [mv 13 0,
 nc 14 13,
 fa 15 3 14,
 i1 16 (.loadR [.int .i64 0] false (.t 15)),
 bn 17 .add 16 1,
 nc 18 13,
 fa 19 3 18,
 st 1 19 17] [0, 3])
 (.seq (.seq (.reg none [mv 20 3,
 i1 21 (.call 67 [(.c (.str [110, 114, 116, 98, 102])), (.t 20)]),
 mv 5 21] [0, 3, 5])
 (.seq (.reg none [mv 22 5,
 bn 23 .geq 22 0] [0, 3, 5, 23])
 (.cond (.t 23) (.seq (.regB [] [(0, 0, mv 24 0),
 (0, 1, nc 25 24),
 (0, 2, fa 26 0 25),
 (0, 3, mv 27 5),
 (0, 4, i1 28 (.sindex (.c (.str [10, 13, 9, 8, 12])) (.t 27))),
 (2, 5, c2 29 79 26 28)] [])
 (.seq (.reg none [mkk 2 (.bool true)] [2])
 .ret))
 .skip)))
 (.seq (.block 0 (.seq (.reg none [mv 31 3,
 bu 32 .geq 31 48,
 mv 33 32,
 mvg 34 3 33 true,
 i1g 35 33 true (.bin .leq (.t 34) (.c (.int .u8 55))),
 pf 36 33 35,
 mv 30 36] [0, 3, 30])
 (.cond (.t 30) (.seq (.reg none [mv 37 0,
 mv 38 3,
 c2 39 219 37 38,
 mv 2 39] [2])
 .ret)
 (.seq (.reg none [mv 41 3,
 bu 42 .eql 41 10,
 mv 43 42,
 mvg 44 3 43 false,
 i1g 45 43 false (.bin .eql (.t 44) (.c (.int .u8 13))),
 po 46 43 45,
 mv 40 46] [0, 3, 40])
 (.cond (.t 40) (.seq (.reg none [mv 47 0,
 mv 48 3,
 c2 49 175 47 48,
 mv 2 49] [2])
 .ret)
 .skip)))))
 (.seq (.reg none [mv 50 0,
 nc 51 50,
 fa 52 0 51,
 mv 53 3,
 c2 54 79 52 53] [])
 (.seq (.reg none [mkk 2 (.bool true)] [2])
 .ret))))))))
def res_lex_scan_escape : List IRes := [⟨2, true, none⟩]
theorem is_lex_scan_escape : fnIs Go.Proofs.Tryz.prog 174 55 res_lex_scan_escape ir_lex_scan_escape = true := by kernel_rfl
theorem lex_scan_escape_fn {s_0} {B0 : Nat} {s : Store} {Q : List AV → Store → Prop} (hB0 : s B0 = some (.cells [bldA 145 B0 0 s_0.Builder, bldB s_0.Builder, .sl false 1 s_0.b_.length (flat s_0.b_), .int .i64 s_0.at_, .bool s_0.last_])) : ok (lex_scan_escape s_0) (fun r => Q [.bool r.1] (s.set B0 (.cells [bldA 145 B0 0 r.2.Builder, bldB r.2.Builder, .sl false 1 r.2.b_.length (flat r.2.b_), .int .i64 r.2.at_, .bool r.2.last_]))) → FN Go.Proofs.Tryz.prog 174 [.ref B0 0] s Q := by
 have hS : s = (s.set B0 (.cells [bldA 145 B0 0 s_0.Builder, bldB s_0.Builder, .sl false 1 s_0.b_.length (flat s_0.b_), .int .i64 s_0.at_, .bool s_0.last_])) := by simp only [set_eq' hB0]
 rw [hS]
 intro h
 refine FN.of (draw_ok mix) is_lex_scan_escape rfl (Nat.le_of_ble_eq_true rfl) ?_
 revert h
 rw [ir_lex_scan_escape, res_lex_scan_escape, lex_scan_escape]
 repeat' (first
  | with_reducible exact tt_to
  | with_reducible refine and_to ?_ ?_
  | with_reducible refine im_to ?_
  | with_reducible refine call_to (fun _ (h : lex_scan_peek s_0 = some _) => lex_scan_peek_fe (B0 := B0) (by simp -implicitDefEqProofs only [go_sem, seval] <;> simp only [encM_nil])   h) (fun r1 => ?_)
  | with_reducible refine call_to (fun _ (h : strings_IndexByte (Str.mk [110, 114, 116, 98, 102]) r1.1 = some _) => strings_IndexByte_fe h) (fun r2 => ?_)
  | with_reducible refine fun hh => FN_cast (by simp -implicitDefEqProofs only [go_sem, seval]) (strings_Builder_WriteByte_fn (B0 := B0) (preB0 := []) (postB0 := [.sl false 1 s_0.b_.length (flat s_0.b_), .int .i64 (w64 (s_0.at_ + 1)), .bool s_0.last_]) (TB0 := 145) (by simp -implicitDefEqProofs only [go_sem, seval] <;> simp only [encM_nil]) (by first | rfl | simp) lies_145  (ok_mono (show ok (strings_Builder_WriteByte s_0.Builder (ix (Str.mk [10, 13, 9, 8, 12]).b r2)) _ from hh) fun r3 => ?_))
  | with_reducible refine fun hh => lex_scan_octal_fn (B0 := B0) (by simp -implicitDefEqProofs only [go_sem, seval] <;> simp only [encM_nil])   (ok_mono (show ok (lex_scan_octal (lex_scan.mk s_0.Builder s_0.b_ (w64 (s_0.at_ + 1)) s_0.last_) r1.1) _ from hh) fun r4 => ?_)
  | with_reducible refine fun hh => lex_scan_line_fn (B0 := B0) (by simp -implicitDefEqProofs only [go_sem, seval] <;> simp only [encM_nil])   (ok_mono (show ok (lex_scan_line (lex_scan.mk s_0.Builder s_0.b_ (w64 (s_0.at_ + 1)) s_0.last_) r1.1) _ from hh) fun r5 => ?_)
  | with_reducible refine fun hh => FN_cast (by simp -implicitDefEqProofs only [go_sem, seval]) (strings_Builder_WriteByte_fn (B0 := B0) (preB0 := []) (postB0 := [.sl false 1 s_0.b_.length (flat s_0.b_), .int .i64 (w64 (s_0.at_ + 1)), .bool s_0.last_]) (TB0 := 145) (by simp -implicitDefEqProofs only [go_sem, seval] <;> simp only [encM_nil]) (by first | rfl | simp) lies_145  (ok_mono (show ok (strings_Builder_WriteByte s_0.Builder r1.1) _ from hh) fun r6 => ?_))
  | simp -implicitDefEqProofs only [go_sem, seval])
def lex_scan_text (s_0 : lex_scan) : Option (api_Value × Int × lex_scan) :=
 iter (fun ((deep1, o2) : Int × lex_scan) =>
  bnd (lex_scan_peek o2) fun r6 =>
  if !r6.2 then
   bnd (lex_scan_open o2) fun r7 =>
   some (.inr ((api_Value.mk 0 0 (Str.mk []) ([] : List api_Value)), r7, o2))
  else
   jnS (
    if (r6.1.toNat : Int) == 92 then
     bnd (lex_scan_escape (lex_scan.mk o2.Builder o2.b_ (w64 (o2.at_ + 1)) o2.last_)) fun r18 =>
     if !r18.1 then
      bnd (lex_scan_open r18.2) fun r19 =>
      some (.inr (.inr (r19, r18.2)))
     else
      some (.inr (.inl r18.2))
    else
     if (r6.1.toNat : Int) == 13 then
      bnd (lex_scan_line (lex_scan.mk o2.Builder o2.b_ (w64 (o2.at_ + 1)) o2.last_) r6.1) fun r20 =>
      if !r20.1 then
       bnd (lex_scan_open r20.2) fun r21 =>
       some (.inr (.inr (r21, r20.2)))
      else
       some (.inl (deep1, 10, r20.2))
     else
      if (r6.1.toNat : Int) == 40 then
       some (.inl (w64 (deep1 + 1), r6.1, (lex_scan.mk o2.Builder o2.b_ (w64 (o2.at_ + 1)) o2.last_)))
      else
       if (r6.1.toNat : Int) == 41 then
        some (.inl (w64 (deep1 - 1), r6.1, (lex_scan.mk o2.Builder o2.b_ (w64 (o2.at_ + 1)) o2.last_)))
       else
        some (.inl (deep1, r6.1, (lex_scan.mk o2.Builder o2.b_ (w64 (o2.at_ + 1)) o2.last_)))) (fun ((deep9, c10, o11) : Int × UInt8 × lex_scan) =>
    if deep9 == 0 then
     bnd (strings_Builder_String o11.Builder) fun r22 =>
     some (.inr ((api_Value.mk 4 0 r22.1 ([] : List api_Value)), (0 : Int), (lex_scan.mk r22.2 o11.b_ o11.at_ o11.last_)))
    else
     bnd (strings_Builder_WriteByte o11.Builder c10) fun r23 =>
     some (.inl (deep9, (lex_scan.mk r23.2 o11.b_ o11.at_ o11.last_))))
   (caseS (fun (o14 : lex_scan) => some (.inl (deep1, o14))) (fun ((t16, o17) : Int × lex_scan) => some (.inr ((api_Value.mk 0 0 (Str.mk []) ([] : List api_Value)), t16, o17))))) (1, s_0)
def ir_lex_scan_text : IC :=
 (.seq (.reg none [i1 2 (.allocL [.int .i64 0, .int .i64 0, .str [], .sl true 4 0 []]),
 mi 3 0] [0, 2])
 (.scopeJ 0 [(0, false), (2, false), (4, false)] (.reg none [mi 4 1] [0, 2, 4])
 .skip
 .skip
 (.seq (.reg none [mv 8 0,
 c1 9 171 8,
 i1 7 (.movT (.t 9)),
 ex 10 7 0,
 ex 11 7 1,
 mv 5 10,
 mv 6 11] [0, 2, 4, 5, 6])
 (.seq (.seq (.reg none [mv 12 6,
 no 13 12] [0, 2, 4, 5, 13])
 (.cond (.t 13) (.seq (.reg none [i1 14 (.build [.int .i64 0, .int .i64 0, .str [], .sl true 4 0 []] []),
 mv 15 0,
 c1 16 172 15,
 st 4 2 14,
 mv 3 16] [2, 3])
 .ret)
 .skip))
 (.seq (.reg none [mv 17 0,
 nc 18 17,
 fa 19 3 18,
 i1 20 (.loadR [.int .i64 0] false (.t 19)),
 bn 21 .add 20 1,
 nc 22 17,
 fa 23 3 22,
 st 1 23 21] [0, 2, 4, 5])
 (.join [(0, false), (2, false), (4, false), (5, false)] (.seq (.reg none [mv 24 5] [0, 2, 4, 5, 24])
 (.block 0 (.seq (.reg none [bu 26 .eql 24 92,
 mv 25 26] [0, 2, 4, 5, 24, 25])
 (.cond (.t 25) (.seq (.seq (.reg none [mv 27 0,
 c1 28 174 27,
 no 29 28] [0, 2, 4, 29])
 (.cond (.t 29) (.seq (.reg none [i1 30 (.build [.int .i64 0, .int .i64 0, .str [], .sl true 4 0 []] []),
 mv 31 0,
 c1 32 172 31,
 st 4 2 30,
 mv 3 32] [2, 3])
 .ret)
 .skip))
 (.goto 0))
 (.seq (.reg none [bu 34 .eql 24 13,
 mv 33 34] [0, 2, 4, 5, 24, 33])
 (.cond (.t 33) (.seq (.seq (.reg none [mv 35 0,
 mv 36 5,
 c2 37 175 35 36,
 no 38 37] [0, 2, 4, 38])
 (.cond (.t 38) (.seq (.reg none [i1 39 (.build [.int .i64 0, .int .i64 0, .str [], .sl true 4 0 []] []),
 mv 40 0,
 c1 41 172 40,
 st 4 2 39,
 mv 3 41] [2, 3])
 .ret)
 .skip))
 (.reg none [mkk 5 (.int .u8 10)] [0, 2, 4, 5]))
 (.seq (.reg none [bu 43 .eql 24 40,
 mv 42 43] [0, 2, 4, 5, 24, 42])
 (.cond (.t 42) (.reg none [mv 44 4,
 bn 45 .add 44 1,
 mv 4 45] [0, 2, 4, 5])
 (.seq (.reg none [bu 47 .eql 24 41,
 mv 46 47] [0, 2, 4, 5, 46])
 (.cond (.t 46) (.reg none [mv 48 4,
 bn 49 .sub 48 1,
 mv 4 49] [0, 2, 4, 5])
 .skip))))))))))
 (.seq (.seq (.reg none [mv 50 4,
 bn 51 .eql 50 0] [0, 2, 4, 5, 51])
 (.cond (.t 51) (.seq (.reg none [mv 52 0,
 nc 53 52,
 fa 54 0 53,
 c1 55 45 54,
 i1 56 (.build [.int .i64 0, .int .i64 0, .str [], .sl true 4 0 []] [(0, 1, (.c (.int .i64 4))), (2, 1, (.t 55))]),
 st 4 2 56,
 mi 3 0] [2, 3])
 .ret)
 .skip))
 (.seq (.reg none [mv 57 0,
 nc 58 57,
 fa 59 0 58,
 mv 60 5,
 c2 61 79 59 60] [0, 2, 4])
 (.goto 0)))))))))
def res_lex_scan_text : List IRes := [⟨2, false, some (4, true)⟩, ⟨3, true, none⟩]
theorem is_lex_scan_text : fnIs Go.Proofs.Tryz.prog 134 62 res_lex_scan_text ir_lex_scan_text = true := by kernel_rfl
theorem lex_scan_text_fn {s_0} {B0 : Nat} {s : Store} {Q : List AV → Store → Prop} (hB0 : s B0 = some (.cells [bldA 145 B0 0 s_0.Builder, bldB s_0.Builder, .sl false 1 s_0.b_.length (flat s_0.b_), .int .i64 s_0.at_, .bool s_0.last_])) : ok (lex_scan_text s_0) (fun r => Q [.agg [.int .i64 r.1.Kind, .int .i64 r.1.N, .str r.1.S.b, .sl false 4 r.1.L.length (flat r.1.L)], .int .i64 r.2.1] (s.set B0 (.cells [bldA 145 B0 0 r.2.2.Builder, bldB r.2.2.Builder, .sl false 1 r.2.2.b_.length (flat r.2.2.b_), .int .i64 r.2.2.at_, .bool r.2.2.last_]))) → FN Go.Proofs.Tryz.prog 134 [.ref B0 0] s Q := by
 have hS : s = (s.set B0 (.cells [bldA 145 B0 0 s_0.Builder, bldB s_0.Builder, .sl false 1 s_0.b_.length (flat s_0.b_), .int .i64 s_0.at_, .bool s_0.last_])) := by simp only [set_eq' hB0]
 rw [hS]
 intro h
 refine FN.of (draw_ok mix) is_lex_scan_text rfl (Nat.le_of_ble_eq_true rfl) ?_
 revert h
 rw [ir_lex_scan_text, res_lex_scan_text, lex_scan_text]
 repeat' (first
  | with_reducible exact tt_to
  | with_reducible refine and_to ?_ ?_
  | with_reducible refine im_to ?_
  | with_reducible refine call_to (fun _ (h : lex_scan_peek o2 = some _) => lex_scan_peek_fe (B0 := B0) (by simp -implicitDefEqProofs only [go_sem, seval] <;> simp only [encM_nil])   h) (fun r6 => ?_)
  | with_reducible refine call_to (fun _ (h : lex_scan_open o2 = some _) => lex_scan_open_fe (B0 := B0) (by simp -implicitDefEqProofs only [go_sem, seval] <;> simp only [encM_nil])   h) (fun r7 => ?_)
  | with_reducible refine fun hh => lex_scan_escape_fn (B0 := B0) (by simp -implicitDefEqProofs only [go_sem, seval] <;> simp only [encM_nil])   (ok_mono (show ok (lex_scan_escape (lex_scan.mk o2.Builder o2.b_ (w64 (o2.at_ + 1)) o2.last_)) _ from hh) fun r18 => ?_)
  | with_reducible refine call_to (fun _ (h : lex_scan_open r18.2 = some _) => lex_scan_open_fe (B0 := B0) (by simp -implicitDefEqProofs only [go_sem, seval] <;> simp only [encM_nil])   h) (fun r19 => ?_)
  | with_reducible refine fun hh => lex_scan_line_fn (B0 := B0) (by simp -implicitDefEqProofs only [go_sem, seval] <;> simp only [encM_nil])   (ok_mono (show ok (lex_scan_line (lex_scan.mk o2.Builder o2.b_ (w64 (o2.at_ + 1)) o2.last_) r6.1) _ from hh) fun r20 => ?_)
  | with_reducible refine call_to (fun _ (h : lex_scan_open r20.2 = some _) => lex_scan_open_fe (B0 := B0) (by simp -implicitDefEqProofs only [go_sem, seval] <;> simp only [encM_nil])   h) (fun r21 => ?_)
  | with_reducible refine fun hh => FN_cast (by simp -implicitDefEqProofs only [go_sem, seval]) (strings_Builder_String_fn (B0 := B0) (preB0 := []) (postB0 := [.sl false 1 o11.b_.length (flat o11.b_), .int .i64 o11.at_, .bool o11.last_]) (TB0 := 145) (by simp -implicitDefEqProofs only [go_sem, seval] <;> simp only [encM_nil]) (by first | rfl | simp) lies_145  (ok_mono (show ok (strings_Builder_String o11.Builder) _ from hh) fun r22 => ?_))
  | with_reducible refine fun hh => FN_cast (by simp -implicitDefEqProofs only [go_sem, seval]) (strings_Builder_WriteByte_fn (B0 := B0) (preB0 := []) (postB0 := [.sl false 1 o11.b_.length (flat o11.b_), .int .i64 o11.at_, .bool o11.last_]) (TB0 := 145) (by simp -implicitDefEqProofs only [go_sem, seval] <;> simp only [encM_nil]) (by first | rfl | simp) lies_145  (ok_mono (show ok (strings_Builder_WriteByte o11.Builder c10) _ from hh) fun r23 => ?_))
  | ((with_reducible refine join_toS (fun ((deep9, c10, o11) : Int × UInt8 × lex_scan) => ⟨[(0, .ref B0 0), (2, .loc [.int .i64 0, .int .i64 0, .str (Str.mk []).b, .sl true 4 0 []]), (4, .int .i64 deep9), (5, .int .u8 c10.toNat)], [], (s.set B0 (.cells [bldA 145 B0 0 o11.Builder, bldB o11.Builder, .sl false 1 o11.b_.length (flat o11.b_), .int .i64 o11.at_, .bool o11.last_]))⟩) (fun J => ?_) ?_); rotate_left; rintro ⟨deep9, c10, o11⟩)
  | ((with_reducible refine jump_to (fun ((deep1, o2) : Int × lex_scan) => ⟨[(0, .ref B0 0), (2, .loc [.int .i64 0, .int .i64 0, .str (Str.mk []).b, .sl true 4 0 []]), (4, .int .i64 deep1)], [], (s.set B0 (.cells [bldA 145 B0 0 o2.Builder, bldB o2.Builder, .sl false 1 o2.b_.length (flat o2.b_), .int .i64 o2.at_, .bool o2.last_]))⟩) ?_ ?_); (first | exact rfl | simp -implicitDefEqProofs only [go_sem, seval]); rintro J ⟨deep1, o2⟩)
  | simp -implicitDefEqProofs only [go_sem, seval])
def lex_name (w_0 : Str) : Option (api_Value × Int) :=
 jnS (
  bndS (
   iter (fun ((out5, i6) : (List UInt8) × Int) =>
    if decide (i6 < (w_0.b.length : Int)) then
     need (0 ≤ i6 ∧ i6 < w_0.b.length) <|
     jnS (
      if ((ix w_0.b i6).toNat : Int) == 35 then
       need ((!(decide (w64 (i6 + 2) ≥ (w_0.b.length : Int)))) = true → 0 ≤ w64 (i6 + 1) ∧ w64 (i6 + 1) < w_0.b.length) <|
       bnd (whenB (!(decide (w64 (i6 + 2) ≥ (w_0.b.length : Int)))) 0 (lex_hex (ix w_0.b (w64 (i6 + 1))))) fun r18 =>
       need ((!((decide (w64 (i6 + 2) ≥ (w_0.b.length : Int))) || (decide (r18 < 0)))) = true → 0 ≤ w64 (i6 + 2) ∧ w64 (i6 + 2) < w_0.b.length) <|
       bnd (whenB (!((decide (w64 (i6 + 2) ≥ (w_0.b.length : Int))) || (decide (r18 < 0)))) 0 (lex_hex (ix w_0.b (w64 (i6 + 2))))) fun r19 =>
       if ((decide (w64 (i6 + 2) ≥ (w_0.b.length : Int))) || (decide (r18 < 0))) || (decide (r19 < 0)) then
        some (.inr (17 : Int))
       else
        need (0 ≤ w64 (i6 + 1) ∧ w64 (i6 + 1) < w_0.b.length) <|
        bnd (lex_hex (ix w_0.b (w64 (i6 + 1)))) fun r20 =>
        need (0 ≤ w64 (i6 + 2) ∧ w64 (i6 + 2) < w_0.b.length) <|
        bnd (lex_hex (ix w_0.b (w64 (i6 + 2)))) fun r21 =>
        some (.inl (w64 (i6 + 2), u8w (w64 ((w64 (16 * r20)) + r21))))
      else
       some (.inl (i6, ix w_0.b i6))) (fun ((i14, c15) : Int × UInt8) =>
      need ((out5.length + [c15].length) * 1 ≤ room) <|
      some (.inl (out5 ++ [c15], w64 (i14 + 1))))
     (fun (t17 : Int) => some (.inr (.inr t17)))
    else
     some (.inr (.inl out5))) (([] : List UInt8), 0)) (fun (out8 : (List UInt8)) =>
   some (.inl out8))
  (fun (t10 : Int) => some (.inr t10))) (fun (out2 : (List UInt8)) =>
  bnd (whenB (!(decide ((out2.length : Int) > 127))) 0 (bytes_IndexByte out2 0)) fun r22 =>
  if (decide ((out2.length : Int) > 127)) || (decide (r22 ≥ 0)) then
   some ((api_Value.mk 0 0 (Str.mk []) ([] : List api_Value)), 17)
  else
   some ((api_Value.mk 5 0 (Str.mk out2) ([] : List api_Value)), 0))
 (fun (t4 : Int) => some ((api_Value.mk 0 0 (Str.mk []) ([] : List api_Value)), t4))
def ir_lex_name : IC :=
 (.seq (.reg none [i1 2 (.allocL [.int .i64 0, .int .i64 0, .str [], .sl true 4 0 []]),
 mi 3 0] [0, 2])
 (.seq (.reg none [i1 4 (.mov true (.c (.sl true 1 0 [])))] [0, 2, 4])
 (.join [(2, false), (4, false)] (.seq (.reg none [mi 5 0] [0, 2, 4, 5])
 (.block 0 (.loop [(0, false), (2, false), (4, false), (5, false)] (.seq (.seq (.reg none [mv 7 5,
 mv 8 0,
 le 9 1 8,
 bt 10 .lss 7 9] [0, 2, 4, 5, 10])
 (.cond (.t 10) .skip
 (.exit 0)))
 (.seq (.block 1 (.seq (.reg none [mv 13 0,
 mv 14 5,
 i1 15 (.sindex (.t 13) (.t 14)),
 mv 6 15] [0, 2, 4, 5, 6])
 (.join [(0, false), (2, false), (4, false), (5, false), (6, false)] (.seq (.reg none [mv 16 6,
 bu 17 .eql 16 35] [0, 2, 4, 5, 6, 17])
 (.cond (.t 17) (.seq (.seq (.reg (some 19) [mv 18 5,
 bn 19 .add 18 2,
 mv 20 0,
 le 21 1 20,
 bt 22 .geq 19 21,
 mv 23 22,
 mvg 24 0 23 false,
 mvg 25 5 23 false,
 i1g 26 23 false (.bin .add (.t 25) (.c (.int .i64 1))),
 i1g 27 23 false (.sindex (.t 24) (.t 26)),
 i1g 28 23 false (.call 176 [(.t 27)]),
 i1g 29 23 false (.bin .lss (.t 28) (.c (.int .i64 0))),
 po 30 23 29,
 mv 31 30,
 mvg 32 0 31 false,
 mvg 33 5 31 false,
 i1g 34 31 false (.bin .add (.t 33) (.c (.int .i64 2))),
 i1g 35 31 false (.sindex (.t 32) (.t 34)),
 i1g 36 31 false (.call 176 [(.t 35)]),
 i1g 37 31 false (.bin .lss (.t 36) (.c (.int .i64 0))),
 po 38 31 37] [0, 2, 4, 5, 38])
 (.cond (.t 38) (.seq (.reg none [i1 39 (.build [.int .i64 0, .int .i64 0, .str [], .sl true 4 0 []] []),
 st 4 2 39,
 mi 3 17] [2, 3])
 .ret)
 .skip))
 (.seq (.reg (some 14) [mv 40 0,
 mv 41 5,
 bn 42 .add 41 1,
 i1 43 (.sindex (.t 40) (.t 42)),
 c1 44 176 43,
 i1 45 (.bin .mul (.c (.int .i64 16)) (.t 44)),
 mv 46 0,
 mv 47 5,
 bn 48 .add 47 2,
 i1 49 (.sindex (.t 46) (.t 48)),
 c1 50 176 49,
 bt 51 .add 45 50,
 i1 52 (.cvtInt .u8 (.t 51)),
 mv 6 52] [0, 2, 4, 5, 6])
 (.reg none [mv 53 5,
 bn 54 .add 53 2,
 mv 5 54] [0, 2, 4, 5, 6])))
 .skip))
 (.reg none [mt 55 4,
 mv 56 6,
 i1 57 (.buildSl 1 1 [.int .u8 0] [(0, 1, (.t 56))]),
 i1 58 (.append 1 1 (.t 55) (.t 57)),
 mt 4 58] [0, 2, 4, 5]))))
 (.reg none [mv 11 5,
 bn 12 .add 11 1,
 mv 5 12] [0, 2, 4, 5]))))))
 (.seq (.seq (.reg (some 6) [mv 59 4,
 le 60 0 59,
 bn 61 .gtr 60 127,
 mv 62 61,
 mvg 63 4 62 false,
 i1g 64 62 false (.call 177 [(.t 63), (.c (.int .u8 0))]),
 i1g 65 62 false (.bin .geq (.t 64) (.c (.int .i64 0))),
 po 66 62 65] [2, 4, 66])
 (.cond (.t 66) (.seq (.reg none [i1 67 (.build [.int .i64 0, .int .i64 0, .str [], .sl true 4 0 []] []),
 st 4 2 67,
 mi 3 17] [2, 3])
 .ret)
 .skip))
 (.seq (.reg none [mt 68 4,
 i1 69 (.cvtStr (.t 68)),
 i1 70 (.build [.int .i64 0, .int .i64 0, .str [], .sl true 4 0 []] [(0, 1, (.c (.int .i64 5))), (2, 1, (.t 69))]),
 st 4 2 70,
 mi 3 0] [2, 3])
 .ret)))))
def res_lex_name : List IRes := [⟨2, false, some (4, true)⟩, ⟨3, true, none⟩]
theorem is_lex_name : fnIs Go.Proofs.Tryz.prog 136 71 res_lex_name ir_lex_name = true := by kernel_rfl
theorem lex_name_fn {w_0} {s : Store} {Q : List AV → Store → Prop}  : ok (lex_name w_0) (fun r => Q [.agg [.int .i64 r.1.Kind, .int .i64 r.1.N, .str r.1.S.b, .sl false 4 r.1.L.length (flat r.1.L)], .int .i64 r.2] s) → FN Go.Proofs.Tryz.prog 136 [.str w_0.b] s Q := by
 intro h
 refine FN.of (draw_ok mix) is_lex_name rfl (Nat.le_of_ble_eq_true rfl) ?_
 revert h
 rw [ir_lex_name, res_lex_name, lex_name]
 repeat' (first
  | with_reducible exact tt_to
  | with_reducible refine and_to ?_ ?_
  | with_reducible refine im_to ?_
  | ((fail_if_success (have _x := r18)); with_reducible refine call_to_g rfl (fun _ (h : lex_hex (ix w_0.b (w64 (i6 + 1))) = some _) => lex_hex_fe h) (fun _ => rfl) (fun r18 => ?_))
  | ((fail_if_success (have _x := r19)); with_reducible refine call_to_g rfl (fun _ (h : lex_hex (ix w_0.b (w64 (i6 + 2))) = some _) => lex_hex_fe h) (fun _ => rfl) (fun r19 => ?_))
  | ((fail_if_success (have _x := r20)); with_reducible refine call_to_q (fun _ (h : lex_hex (ix w_0.b (w64 (i6 + 1))) = some _) => lex_hex_fe h) (fun _ => rfl) (fun r20 => ?_))
  | ((fail_if_success (have _x := r21)); with_reducible refine call_to_q (fun _ (h : lex_hex (ix w_0.b (w64 (i6 + 2))) = some _) => lex_hex_fe h) (fun _ => rfl) (fun r21 => ?_))
  | with_reducible refine call_to_g rfl (fun _ (h : bytes_IndexByte out2 0 = some _) => (by refine FE_cast ?_ (bytes_IndexByte_fe h); simp -implicitDefEqProofs only [go_sem, seval])) (fun _ => rfl) (fun r22 => ?_)
  | ((with_reducible refine join_toS (live := [(0, false), (2, false), (4, false), (5, false), (6, false)]) (fun ((i14, c15) : Int × UInt8) => ⟨[(0, .str w_0.b), (2, .loc [.int .i64 0, .int .i64 0, .str (Str.mk []).b, .sl true 4 0 []]), (4, .sl true 1 out5.length (flat out5)), (5, .int .i64 i14), (6, .int .u8 c15.toNat)], [], s⟩) (fun J => ?_) ?_); rotate_left; rintro ⟨i14, c15⟩)
  | ((with_reducible refine iter_to (fun ((out5, i6) : (List UInt8) × Int) => ⟨[(0, .str w_0.b), (2, .loc [.int .i64 0, .int .i64 0, .str (Str.mk []).b, .sl true 4 0 []]), (4, .sl true 1 out5.length (flat out5)), (5, .int .i64 i6)], [], s⟩) ?_ ?_); (first | exact rfl | simp -implicitDefEqProofs only [go_sem, seval]); rintro J ⟨out5, i6⟩)
  | ((with_reducible refine join_toS (live := [(2, false), (4, false)]) (fun (out2 : (List UInt8)) => ⟨[(2, .loc [.int .i64 0, .int .i64 0, .str (Str.mk []).b, .sl true 4 0 []]), (4, .sl true 1 out2.length (flat out2))], [], s⟩) (fun J => ?_) ?_); rotate_left; rintro out2)
  | simp -implicitDefEqProofs only [go_sem, seval])
theorem lex_name_fe {w_0} {s : Store} {r : api_Value × Int}  (h : lex_name w_0 = some r) : FE Go.Proofs.Tryz.prog 136 [.str w_0.b] s [.agg [.int .i64 r.1.Kind, .int .i64 r.1.N, .str r.1.S.b, .sl false 4 r.1.L.length (flat r.1.L)], .int .i64 r.2] s := lex_name_fn  ⟨r, h, rfl, rfl⟩
def lex_scan_token (s_0 : lex_scan) (c_1 : UInt8) : Option (lex_Token × Int × lex_scan) :=
 bnd (lex_regular c_1) fun r1 =>
 if r1 then
  bnd (lex_scan_regulars s_0) fun r2 =>
  some (r2.1, r2.2.1, r2.2.2)
 else
  if (c_1.toNat : Int) == 91 then
   some ((lex_Token.mk 2 0 0 (api_Value.mk 0 0 (Str.mk []) ([] : List api_Value)) (Str.mk [])), 0, (lex_scan.mk s_0.Builder s_0.b_ (w64 (s_0.at_ + 1)) s_0.last_))
  else
   if (c_1.toNat : Int) == 93 then
    some ((lex_Token.mk 3 0 0 (api_Value.mk 0 0 (Str.mk []) ([] : List api_Value)) (Str.mk [])), 0, (lex_scan.mk s_0.Builder s_0.b_ (w64 (s_0.at_ + 1)) s_0.last_))
   else
    if (c_1.toNat : Int) == 60 then
     bnd (lex_scan_opening (lex_scan.mk s_0.Builder s_0.b_ (w64 (s_0.at_ + 1)) s_0.last_)) fun r3 =>
     some (r3.1, r3.2.1, r3.2.2)
    else
     if (c_1.toNat : Int) == 62 then
      bnd (lex_scan_closing (lex_scan.mk s_0.Builder s_0.b_ (w64 (s_0.at_ + 1)) s_0.last_)) fun r4 =>
      some (r4.1, r4.2.1, r4.2.2)
     else
      if (c_1.toNat : Int) == 40 then
       bnd (lex_scan_text (lex_scan.mk s_0.Builder s_0.b_ (w64 (s_0.at_ + 1)) s_0.last_)) fun r5 =>
       some ((lex_Token.mk 1 0 0 r5.1 (Str.mk [])), r5.2.1, r5.2.2)
      else
       if (c_1.toNat : Int) == 47 then
        bnd (lex_scan_word (lex_scan.mk s_0.Builder s_0.b_ (w64 (s_0.at_ + 1)) s_0.last_)) fun r6 =>
        if !r6.2.1 then
         some ((lex_Token.mk 0 0 0 (api_Value.mk 0 0 (Str.mk []) ([] : List api_Value)) (Str.mk [])), 6, r6.2.2)
        else
         bnd (lex_name r6.1) fun r7 =>
         some ((lex_Token.mk 1 0 0 r7.1 (Str.mk [])), r7.2, r6.2.2)
       else
        some ((lex_Token.mk 0 0 0 (api_Value.mk 0 0 (Str.mk []) ([] : List api_Value)) (Str.mk [])), 11, (lex_scan.mk s_0.Builder s_0.b_ (w64 (s_0.at_ + 1)) s_0.last_))
def ir_lex_scan_token : IC :=
 (.seq (.reg none [i1 4 (.allocL [.int .i64 0, .int .i64 0, .int .i64 0, .int .i64 0, .int .i64 0, .str [], .sl true 4 0 [], .str []]),
 mi 5 0] [0, 1, 4])
 (.seq (.seq (.reg none [mv 12 1,
 c1 13 130 12] [0, 1, 4, 13])
 (.cond (.t 13) (.seq (.reg none [mv 14 0,
 c1 15 131 14,
 ex 16 15 0,
 ex 17 15 1,
 st 8 4 16,
 mv 5 17] [4, 5])
 .ret)
 .skip))
 (.seq (.reg none [mv 18 0,
 nc 19 18,
 fa 20 3 19,
 i1 21 (.loadR [.int .i64 0] false (.t 20)),
 bn 22 .add 21 1,
 nc 23 18,
 fa 24 3 23,
 st 1 24 22] [0, 1, 4])
 (.seq (.seq (.reg none [mv 25 1] [0, 4, 25])
 (.block 0 (.seq (.reg none [bu 27 .eql 25 91,
 mv 26 27] [0, 4, 25, 26])
 (.cond (.t 26) (.seq (.reg none [i1 28 (.build [.int .i64 0, .int .i64 0, .int .i64 0, .int .i64 0, .int .i64 0, .str [], .sl true 4 0 [], .str []] [(0, 1, (.c (.int .i64 2)))]),
 st 8 4 28,
 mi 5 0] [4, 5])
 .ret)
 (.seq (.reg none [bu 30 .eql 25 93,
 mv 29 30] [0, 4, 25, 29])
 (.cond (.t 29) (.seq (.reg none [i1 31 (.build [.int .i64 0, .int .i64 0, .int .i64 0, .int .i64 0, .int .i64 0, .str [], .sl true 4 0 [], .str []] [(0, 1, (.c (.int .i64 3)))]),
 st 8 4 31,
 mi 5 0] [4, 5])
 .ret)
 (.seq (.reg none [bu 33 .eql 25 60,
 mv 32 33] [0, 4, 25, 32])
 (.cond (.t 32) (.seq (.reg none [mv 34 0,
 c1 35 132 34,
 ex 36 35 0,
 ex 37 35 1,
 st 8 4 36,
 mv 5 37] [4, 5])
 .ret)
 (.seq (.reg none [bu 39 .eql 25 62,
 mv 38 39] [0, 4, 25, 38])
 (.cond (.t 38) (.seq (.reg none [mv 40 0,
 c1 41 133 40,
 ex 42 41 0,
 ex 43 41 1,
 st 8 4 42,
 mv 5 43] [4, 5])
 .ret)
 (.seq (.reg none [bu 45 .eql 25 40,
 mv 44 45] [0, 4, 25, 44])
 (.cond (.t 44) (.seq (.reg none [mv 47 0,
 c1 48 134 47,
 i1 46 (.movT (.t 48)),
 ex 49 46 0,
 ex 50 46 1,
 i1 6 (.allocL [.int .i64 0, .int .i64 0, .str [], .sl true 4 0 []]),
 st 4 6 49,
 mv 7 50] [4, 6, 7])
 (.seq (.reg none [lm 51 4 6,
 i1 52 (.build [.int .i64 0, .int .i64 0, .int .i64 0, .int .i64 0, .int .i64 0, .str [], .sl true 4 0 [], .str []] [(0, 1, (.c (.int .i64 1))), (3, 4, (.t 51))]),
 mv 53 7,
 st 8 4 52,
 mv 5 53] [4, 5])
 .ret))
 (.seq (.reg none [bu 55 .eql 25 47,
 mv 54 55] [0, 4, 54])
 (.cond (.t 54) (.seq (.reg none [mv 57 0,
 c1 58 135 57,
 i1 56 (.movT (.t 58)),
 ex 59 56 0,
 ex 60 56 1,
 mv 8 59,
 mv 9 60] [4, 8, 9])
 (.seq (.seq (.reg none [mv 61 9,
 no 62 61] [4, 8, 62])
 (.cond (.t 62) (.seq (.reg none [i1 63 (.build [.int .i64 0, .int .i64 0, .int .i64 0, .int .i64 0, .int .i64 0, .str [], .sl true 4 0 [], .str []] []),
 st 8 4 63,
 mi 5 6] [4, 5])
 .ret)
 .skip))
 (.seq (.reg none [mv 65 8,
 c1 66 136 65,
 i1 64 (.movT (.t 66)),
 ex 67 64 0,
 ex 68 64 1,
 i1 10 (.allocL [.int .i64 0, .int .i64 0, .str [], .sl true 4 0 []]),
 st 4 10 67,
 mv 11 68] [4, 10, 11])
 (.seq (.reg none [lm 69 4 10,
 i1 70 (.build [.int .i64 0, .int .i64 0, .int .i64 0, .int .i64 0, .int .i64 0, .str [], .sl true 4 0 [], .str []] [(0, 1, (.c (.int .i64 1))), (3, 4, (.t 69))]),
 mv 71 11,
 st 8 4 70,
 mv 5 71] [4, 5])
 .ret))))
 .skip))))))))))))))
 (.seq (.reg none [i1 72 (.build [.int .i64 0, .int .i64 0, .int .i64 0, .int .i64 0, .int .i64 0, .str [], .sl true 4 0 [], .str []] []),
 st 8 4 72,
 mi 5 11] [4, 5])
 .ret)))))
def res_lex_scan_token : List IRes := [⟨4, false, some (8, true)⟩, ⟨5, true, none⟩]
theorem is_lex_scan_token : fnIs Go.Proofs.Tryz.prog 99 73 res_lex_scan_token ir_lex_scan_token = true := by kernel_rfl
theorem lex_scan_token_fn {s_0 c_1} {B0 : Nat} {s : Store} {Q : List AV → Store → Prop} (hB0 : s B0 = some (.cells [bldA 145 B0 0 s_0.Builder, bldB s_0.Builder, .sl false 1 s_0.b_.length (flat s_0.b_), .int .i64 s_0.at_, .bool s_0.last_])) : ok (lex_scan_token s_0 c_1) (fun r => Q [.agg [.int .i64 r.1.Kind, .int .i64 r.1.From, .int .i64 r.1.To, .int .i64 r.1.V.Kind, .int .i64 r.1.V.N, .str r.1.V.S.b, .sl false 4 r.1.V.L.length (flat r.1.V.L), .str r.1.S.b], .int .i64 r.2.1] (s.set B0 (.cells [bldA 145 B0 0 r.2.2.Builder, bldB r.2.2.Builder, .sl false 1 r.2.2.b_.length (flat r.2.2.b_), .int .i64 r.2.2.at_, .bool r.2.2.last_]))) → FN Go.Proofs.Tryz.prog 99 [.ref B0 0, .int .u8 c_1.toNat] s Q := by
 have hS : s = (s.set B0 (.cells [bldA 145 B0 0 s_0.Builder, bldB s_0.Builder, .sl false 1 s_0.b_.length (flat s_0.b_), .int .i64 s_0.at_, .bool s_0.last_])) := by simp only [set_eq' hB0]
 rw [hS]
 intro h
 refine FN.of (draw_ok mix) is_lex_scan_token rfl (Nat.le_of_ble_eq_true rfl) ?_
 revert h
 rw [ir_lex_scan_token, res_lex_scan_token, lex_scan_token]
 repeat' (first
  | with_reducible exact tt_to
  | with_reducible refine and_to ?_ ?_
  | with_reducible refine im_to ?_
  | with_reducible refine call_to (fun _ (h : lex_regular c_1 = some _) => lex_regular_fe h) (fun r1 => ?_)
  | with_reducible refine fun hh => lex_scan_regulars_fn (B0 := B0) (by simp -implicitDefEqProofs only [go_sem, seval] <;> simp only [encM_nil])   (ok_mono (show ok (lex_scan_regulars s_0) _ from hh) fun r2 => ?_)
  | with_reducible refine fun hh => lex_scan_opening_fn (B0 := B0) (by simp -implicitDefEqProofs only [go_sem, seval] <;> simp only [encM_nil])   (ok_mono (show ok (lex_scan_opening (lex_scan.mk s_0.Builder s_0.b_ (w64 (s_0.at_ + 1)) s_0.last_)) _ from hh) fun r3 => ?_)
  | with_reducible refine fun hh => lex_scan_closing_fn (B0 := B0) (by simp -implicitDefEqProofs only [go_sem, seval] <;> simp only [encM_nil])   (ok_mono (show ok (lex_scan_closing (lex_scan.mk s_0.Builder s_0.b_ (w64 (s_0.at_ + 1)) s_0.last_)) _ from hh) fun r4 => ?_)
  | with_reducible refine fun hh => lex_scan_text_fn (B0 := B0) (by simp -implicitDefEqProofs only [go_sem, seval] <;> simp only [encM_nil])   (ok_mono (show ok (lex_scan_text (lex_scan.mk s_0.Builder s_0.b_ (w64 (s_0.at_ + 1)) s_0.last_)) _ from hh) fun r5 => ?_)
  | with_reducible refine fun hh => lex_scan_word_fn (B0 := B0) (by simp -implicitDefEqProofs only [go_sem, seval] <;> simp only [encM_nil])   (ok_mono (show ok (lex_scan_word (lex_scan.mk s_0.Builder s_0.b_ (w64 (s_0.at_ + 1)) s_0.last_)) _ from hh) fun r6 => ?_)
  | with_reducible refine call_to (fun _ (h : lex_name r6.1 = some _) => lex_name_fe h) (fun r7 => ?_)
  | simp -implicitDefEqProofs only [go_sem, seval])
def lex_Next (b_0 : (List UInt8)) (at_1 : Int) (last_2 : Bool) : Option (lex_Token × Int) :=
 if (decide (at_1 < 0)) || (decide (at_1 > (b_0.length : Int))) then
  some ((lex_Token.mk 0 0 0 (api_Value.mk 0 0 (Str.mk []) ([] : List api_Value)) (Str.mk [])), 2)
 else
  bnd (lex_Skip b_0 at_1) fun r1 =>
  if r1 == (b_0.length : Int) then
   if last_2 then
    some ((lex_Token.mk 0 r1 r1 (api_Value.mk 0 0 (Str.mk []) ([] : List api_Value)) (Str.mk [])), 0)
   else
    some ((lex_Token.mk 0 r1 r1 (api_Value.mk 0 0 (Str.mk []) ([] : List api_Value)) (Str.mk [])), 6)
  else
   need (0 ≤ r1 ∧ r1 < b_0.length) <|
   bnd (lex_scan_token (lex_scan.mk Bld.zero b_0 r1 last_2) (ix b_0 r1)) fun r2 =>
   if r2.2.1 != 0 then
    some ((lex_Token.mk 0 r1 r1 (api_Value.mk 0 0 (Str.mk []) ([] : List api_Value)) (Str.mk [])), r2.2.1)
   else
    some ((lex_Token.mk r2.1.Kind r1 r2.2.2.at_ r2.1.V r2.1.S), 0)
def ir_lex_Next : IC :=
 (.seq (.reg none [i1 6 (.allocL [.int .i64 0, .int .i64 0, .int .i64 0, .int .i64 0, .int .i64 0, .str [], .sl true 4 0 [], .str []]),
 mi 7 0] [0, 1, 2, 6])
 (.seq (.seq (.reg none [mv 12 1,
 bn 13 .lss 12 0,
 mv 14 13,
 mvg 15 1 14 false,
 mvg 16 0 14 false,
 i1g 17 14 false (.len 0 (.t 16)),
 i1g 18 14 false (.bin .gtr (.t 15) (.t 17)),
 po 19 14 18] [0, 1, 2, 6, 19])
 (.cond (.t 19) (.seq (.reg none [i1 20 (.build [.int .i64 0, .int .i64 0, .int .i64 0, .int .i64 0, .int .i64 0, .str [], .sl true 4 0 [], .str []] []),
 st 8 6 20,
 mi 7 2] [6, 7])
 .ret)
 .skip))
 (.seq (.reg none [mv 21 0,
 mv 22 1,
 c2 23 98 21 22,
 mv 8 23] [0, 2, 6, 8])
 (.seq (.seq (.reg none [mv 24 8,
 mv 25 0,
 le 26 0 25,
 bt 27 .eql 24 26] [0, 2, 6, 8, 27])
 (.cond (.t 27) (.seq (.seq (.reg none [mv 28 2] [6, 8, 28])
 (.cond (.t 28) (.seq (.reg none [mv 29 8,
 mv 30 8,
 i1 31 (.build [.int .i64 0, .int .i64 0, .int .i64 0, .int .i64 0, .int .i64 0, .str [], .sl true 4 0 [], .str []] [(1, 1, (.t 29)), (2, 1, (.t 30))]),
 st 8 6 31,
 mi 7 0] [6, 7])
 .ret)
 .skip))
 (.seq (.reg none [mv 32 8,
 mv 33 8,
 i1 34 (.build [.int .i64 0, .int .i64 0, .int .i64 0, .int .i64 0, .int .i64 0, .str [], .sl true 4 0 [], .str []] [(1, 1, (.t 32)), (2, 1, (.t 33))]),
 st 8 6 34,
 mi 7 6] [6, 7])
 .ret))
 .skip))
 (.seq (.reg none [mv 35 0,
 mv 36 8,
 mv 37 2,
 i1 38 (.build [.nilp, .bb 5 0 [], .sl true 1 0 [], .int .i64 0, .bool false] [(2, 1, (.t 35)), (3, 1, (.t 36)), (4, 1, (.t 37))]),
 i1 39 (.boxT 5 145 0 5 (.t 38)),
 mv 9 39] [0, 6, 8, 9])
 (.seq (.reg none [mv 41 9,
 mt 42 0,
 mv 43 8,
 ia 44 [.int .u8 0] 42 43,
 ld 45 1 44,
 c2 46 99 41 45,
 i1 40 (.movT (.t 46)),
 ex 47 40 0,
 ex 48 40 1,
 i1 10 (.allocL [.int .i64 0, .int .i64 0, .int .i64 0, .int .i64 0, .int .i64 0, .str [], .sl true 4 0 [], .str []]),
 st 8 10 47,
 mv 11 48] [6, 8, 9, 10, 11])
 (.seq (.seq (.reg none [mv 49 11,
 bn 50 .neq 49 0] [6, 8, 9, 10, 11, 50])
 (.cond (.t 50) (.seq (.reg none [mv 51 8,
 mv 52 8,
 i1 53 (.build [.int .i64 0, .int .i64 0, .int .i64 0, .int .i64 0, .int .i64 0, .str [], .sl true 4 0 [], .str []] [(1, 1, (.t 51)), (2, 1, (.t 52))]),
 mv 54 11,
 st 8 6 53,
 mv 7 54] [6, 7])
 .ret)
 .skip))
 (.seq (.regX [[false, false, false, false, false, false, false, false, false], [false, false, false, false, false, false, false, false, false], [false, true, false, false, false, false, false, false, false], [false, false, true, false, false, false, false, false, false], [false, false, false, true, false, false, false, false, false], [true, false, false, false, false, false, false, false, false], [true, false, false, false, false, true, false, false, false], [true, true, true, true, true, true, true, false, false], [true, true, true, true, true, true, true, true, false]] [mv 55 8,
 mv 56 9,
 nc 57 56,
 fa 58 3 57,
 i1 59 (.loadR [.int .i64 0] false (.t 58)),
 fa 60 1 10,
 st 1 60 55,
 fa 61 2 10,
 st 1 61 59] [6, 10])
 (.seq (.reg none [lm 62 8 10,
 st 8 6 62,
 mi 7 0] [6, 7])
 .ret)))))))))
def res_lex_Next : List IRes := [⟨6, false, some (8, true)⟩, ⟨7, true, none⟩]
theorem is_lex_Next : fnIs Go.Proofs.Tryz.prog 58 63 res_lex_Next ir_lex_Next = true := by kernel_rfl
set_option maxHeartbeats 8000000 in
theorem lex_Next_fn {b_0 at_1 last_2} {s : Store} {Q : List AV → Store → Prop}  : ok (lex_Next b_0 at_1 last_2) (fun r => Q [.agg [.int .i64 r.1.Kind, .int .i64 r.1.From, .int .i64 r.1.To, .int .i64 r.1.V.Kind, .int .i64 r.1.V.N, .str r.1.V.S.b, .sl false 4 r.1.V.L.length (flat r.1.V.L), .str r.1.S.b], .int .i64 r.2] s) → FN Go.Proofs.Tryz.prog 58 [.sl false 1 b_0.length (flat b_0), .int .i64 at_1, .bool last_2] s Q := by
 intro h
 refine FN.forget ?_
 refine FN.of (draw_ok mix) is_lex_Next rfl (Nat.le_of_ble_eq_true rfl) ?_
 revert h
 rw [ir_lex_Next, res_lex_Next, lex_Next]
 repeat' (first
  | with_reducible exact tt_to
  | with_reducible refine and_to ?_ ?_
  | with_reducible refine im_to ?_
  | ((with_reducible apply x_to); (· intro Q' hQ; repeat' (first | exact hQ | (simp only [xwpK_eq, xwp_cons, xalt_cons, xalt_nil, xrdy, xrev, Bool.not_true, Bool.not_false, Bool.or_true, Bool.true_or, Bool.false_or, Bool.or_false, Bool.and_true, Bool.true_and, Bool.and_false, Bool.false_and, cond_true, cond_false, true_and, and_true]; done) | with_reducible refine ⟨?_, ?_⟩ | with_reducible exact trivial | simp only [xwpK_eq, xwp_cons, xalt_cons, xalt_nil, xrdy, xrev, Bool.not_true, Bool.not_false, Bool.or_true, Bool.true_or, Bool.false_or, Bool.or_false, Bool.and_true, Bool.true_and, Bool.and_false, Bool.false_and, cond_true, cond_false, true_and, and_true] | simp -implicitDefEqProofs only [go_sem, seval])))
  | with_reducible refine call_to (fun _ (h : lex_Skip b_0 at_1 = some _) => lex_Skip_fe h) (fun r1 => ?_)
  | with_reducible refine fun hh => lex_scan_token_fn (B0 := N1) (by simp -implicitDefEqProofs only [go_sem, seval] <;> simp only [encM_nil])   (ok_mono (show ok (lex_scan_token (lex_scan.mk Bld.zero b_0 r1 last_2) (ix b_0 r1)) _ from hh) fun r2 => ?_)
  | ((fail_if_success (have _x := sN1)); with_reducible intro hh N1 hN1; (try simp only [set_none] at hN1); have sN1 := hN1; revert hh)
  | with_reducible exact fun hh => ⟨_, SubS.set (SubS.refl _) (by simp [Store.set, sN1]), hh⟩
  | with_reducible exact fun hh => ⟨_, SubS.refl _, hh⟩
  | simp -implicitDefEqProofs only [go_sem, seval])
theorem lex_Next_fe {b_0 at_1 last_2} {s : Store} {r : lex_Token × Int}  (h : lex_Next b_0 at_1 last_2 = some r) : FE Go.Proofs.Tryz.prog 58 [.sl false 1 b_0.length (flat b_0), .int .i64 at_1, .bool last_2] s [.agg [.int .i64 r.1.Kind, .int .i64 r.1.From, .int .i64 r.1.To, .int .i64 r.1.V.Kind, .int .i64 r.1.V.N, .str r.1.V.S.b, .sl false 4 r.1.V.L.length (flat r.1.V.L), .str r.1.S.b], .int .i64 r.2] s := lex_Next_fn  ⟨r, h, rfl, rfl⟩
end Go.AB
end

section
namespace Go.AB
open Go
attribute [-go_sem] Nat.add_zero ge_0 part_zero
def ir_DeleteV : IC :=
 (.seq (.reg none [i1 6 (.mov false (.c (.arr 0 0 0 0)))] [0, 1, 2])
 (.seq (.reg none [mv 8 0,
 mv 9 1,
 mv 10 2,
 mv 11 0,
 i1 12 (.len 0 (.t 11)),
 i1 13 (.slice 4 (.t 8) (some (.t 9)) (some (.t 10)) (some (.t 12)))] [0, 1, 2])
 (.seq (.seq (.reg none [mv 14 1,
 mv 15 2,
 i1 16 (.bin .eql (.t 14) (.t 15))] [0, 1, 2, 16])
 (.cond (.t 16) (.seq (.reg none [mv 17 0,
 mv 6 17] [6])
 .ret)
 .skip))
 (.seq (.reg none [mv 18 0,
 i1 19 (.len 0 (.t 18)),
 mv 7 19] [0, 1, 2, 7])
 (.seq (.reg (some 6) [mv 20 0,
 mv 21 1,
 i1 22 (.slice 4 (.t 20) none (some (.t 21)) none),
 mv 23 0,
 mv 24 2,
 i1 25 (.slice 4 (.t 23) (some (.t 24)) none none),
 i1 26 (.appendA 4 56 [.int .i64 0, .int .i64 0, .str [], .sl false 4 0 []] (.t 22) (.t 25)),
 mv 0 26] [0, 7])
 (.seq (.reg none [mv 27 0,
 mv 28 0,
 i1 29 (.len 0 (.t 28)),
 mv 30 7,
 i1 31 (.slice 4 (.t 27) (some (.t 29)) (some (.t 30)) none),
 i0 (.clearA [.int .i64 0, .int .i64 0, .str [], .sl false 4 0 []] (.t 31))] [0])
 (.seq (.reg none [mv 32 0,
 mv 6 32] [6])
 .ret)))))))
def res_DeleteV : List IRes := [⟨6, true, none⟩]
theorem is_DeleteV : fnIs Go.Proofs.Tryz.prog 105 33 res_DeleteV ir_DeleteV = true := by kernel_rfl
theorem deleteV_arr {b cap i j : Nat} {l : List api_Value} {sp : List AV} {s : Store} {Q : List AV → Store → Prop} (hs : s b = some (.cells (flat l ++ sp))) (hl : (flat l ++ sp).length = cap * 4) (hn : l.length ≤ cap) (hij : i < j) (hj : j ≤ l.length) (hbig : (l.length : Int) ≤ 9223372036854775807)
    (hq : Q [.arr b 0 (l.length - (j - i)) cap] (s.set b (.cells (flat (l.take i ++ l.drop j) ++ (flat (List.replicate (j - i) (⟨0, 0, ⟨[]⟩, []⟩ : api_Value)) ++ sp))))) :
    FN Go.Proofs.Tryz.prog 105 [.arr b 0 l.length cap, .int .i64 i, .int .i64 j] s Q := by
  refine FN.of (draw_ok mix) is_DeleteV rfl (Nat.le_of_ble_eq_true rfl) ?_
  rw [ir_DeleteV, res_DeleteV]
  simp -implicitDefEqProofs only [go_sem, start, startE, resVs, resV, resC, allV, retK, Nat.reduceBEq, Nat.reduceAdd, Nat.reduceMul, Nat.reduceLeDiff, Nat.reduceEqDiff, Nat.reduceBNe, Nat.ble_eq, UInt8.reduceToNat, UInt32.reduceToNat, hs]
  refine ⟨by omega, fun h => by have := eq_of_beq h; omega, fun _ => ⟨by omega, by omega, ?_⟩⟩
  have hsrc : srcV s 4 (.arr b (arrOff 0 cap j 4) (l.length - j) (cap - j)) = some (l.length - j, flat (l.drop j)) := by
    by_cases hjn : j = l.length
    · subst hjn
      rw [Nat.sub_self, srcV_none, List.drop_length]; rfl
    · rw [arrOff_lt (by omega), Nat.zero_add, srcV_arr hs (by rw [hl, ← Nat.add_mul]; exact Nat.mul_le_mul_right _ (by omega)), row_sub l sp 4 j _ rfl (by omega), flat_views, List.take_of_length_le (by simp)]
  rw [hsrc]
  refine appendAW_in rfl hs (by rw [hl]; omega) (by omega) ?_
  have hst := row_set l (l.drop j) sp 4 i rfl (by simp; omega)
  rw [Nat.zero_add, hst]
  generalize hl1 : l.take i ++ l.drop j ++ l.drop (i + (l.drop j).length) = l1
  have hlen1 : l1.length = l.length := by subst hl1; simp; omega
  have hz : (List.replicate (j - i) [.int .i64 0, .int .i64 0, .str [], .sl false 4 0 []]).flatten = flat (List.replicate (j - i) (⟨0, 0, ⟨[]⟩, []⟩ : api_Value)) := by
    rw [flat_rep]; rfl
  have hsp : (flat l1 ++ sp).length = cap * 4 := by
    rw [← hl, List.length_append, List.length_append, flat_len, flat_len, hlen1]
  have e1 : i + (l.length - j) < cap := by omega
  have hst2 := row_set l1 (List.replicate (j - i) (⟨0, 0, ⟨[]⟩, []⟩ : api_Value)) sp 4 (i + (l.length - j)) rfl (by simp; omega)
  have e2 : l1.take (i + (l.length - j)) = l.take i ++ l.drop j := by
    subst hl1
    rw [List.take_append_of_le_length (by simp; omega), List.take_of_length_le (by simp; omega)]
  have e3 : l1.drop (i + (l.length - j) + (List.replicate (j - i) (⟨0, 0, ⟨[]⟩, []⟩ : api_Value)).length) = [] := by
    rw [List.drop_eq_nil_iff]; simp; omega
  rw [e2, e3, List.append_nil] at hst2
  generalize hl2 : l.take i ++ l.drop j = l2 at hst2 hq
  simp -implicitDefEqProofs only [go_sem, start, startE, resVs, resV, resC, allV, retK, Nat.reduceBEq, Nat.reduceAdd, Nat.reduceMul, Nat.reduceLeDiff, Nat.reduceEqDiff, Nat.reduceBNe, Nat.ble_eq, UInt8.reduceToNat, UInt32.reduceToNat]
  refine ⟨by omega, ?_⟩
  rw [arrOff_lt e1]
  refine clearAW_in rfl set_at (by
    rw [hsp]
    show 0 + (i + (l.length - j)) * 4 + (l.length - (i + (l.length - j))) * 4 ≤ cap * 4
    omega) ?_
  rw [show l.length - (i + (l.length - j)) = j - i by omega, Nat.zero_add, hz, hst2]
  simp -implicitDefEqProofs only [go_sem, start, startE, resVs, resV, resC, allV, retK, Nat.reduceBEq, Nat.reduceAdd, Nat.reduceMul, Nat.reduceLeDiff, Nat.reduceEqDiff, Nat.reduceBNe, Nat.ble_eq, UInt8.reduceToNat, UInt32.reduceToNat]
  rw [show i + (l.length - j) = l.length - (j - i) by omega, List.append_assoc]
  exact hq
def ir_CloneV : IC :=
 (.seq (.reg none [i1 2 (.mov false (.c (.arr 0 0 0 0)))] [0])
 (.seq (.seq (.reg none [mv 3 0,
 i1 4 (.eqN false (.t 3))] [0, 4])
 (.cond (.t 4) (.seq (.reg none [i1 2 (.mov false (.c (.arr 0 0 0 0)))] [2])
 .ret)
 .skip))
 (.seq (.reg none [i1 5 (.buildSlA 4 0 [] []),
 mv 6 0,
 i1 7 (.appendA 4 56 [.int .i64 0, .int .i64 0, .str [], .sl false 4 0 []] (.t 5) (.t 6)),
 mv 2 7] [2])
 .ret)))
def res_CloneV : List IRes := [⟨2, true, none⟩]
theorem is_CloneV : fnIs Go.Proofs.Tryz.prog 51 8 res_CloneV ir_CloneV = true := by kernel_rfl
def cloneVP (l : List api_Value) (s : Store) (rs : List AV) (s' : Store) : Prop := (∃ b cap sp, rs = [.arr b 0 l.length cap] ∧ s b = none ∧ 0 < cap ∧ l.length ≤ cap ∧ (flat l ++ sp).length = cap * 4 ∧ views (flat l ++ sp) = flat l ++ sp ∧ s' = s.set b (.cells (flat l ++ sp))) ∨ (l = [] ∧ s' = s ∧ ∃ b, rs = [.arr b 0 0 0])
theorem cloneV_arr {o : Bool} {l : List api_Value} {s : Store} (hr : l.length * 56 ≤ room) : FN Go.Proofs.Tryz.prog 51 [.sl o 4 l.length (flat l)] s (cloneVP l s) := by
  refine FN.weak (FN.of (draw_ok mix) is_CloneV rfl (Nat.le_of_ble_eq_true rfl) ?_)
  generalize hQ : (fun rs s' => ∃ s2, Sub s2 s' ∧ cloneVP l s rs s2) = Q
  have hq : ∀ rs s' s2, Sub s2 s' → cloneVP l s rs s2 → Q rs s' := fun rs s' s2 h1 h2 => by rw [← hQ]; exact ⟨s2, h1, h2⟩
  rw [ir_CloneV, res_CloneV]
  simp -implicitDefEqProofs only [go_sem, start, startE, resVs, resV, resC, allV, retK, Nat.reduceBEq, Nat.reduceAdd, Nat.reduceMul, Nat.reduceLeDiff, Nat.reduceEqDiff, Nat.reduceBNe, Nat.ble_eq, UInt8.reduceToNat, UInt32.reduceToNat]
  intro v hv
  refine ⟨fun h => hq _ _ s (Sub.refl s) (.inr ⟨List.eq_nil_of_length_eq_zero (hv (by simpa using h)), rfl, 0, rfl⟩), fun _ b1 hb1 => ?_⟩
  rw [srcV_sl, flat_views]
  by_cases hl : l = []
  · subst hl
    refine appendAW_zero rfl rfl (Nat.le_refl 0) ?_
    simp -implicitDefEqProofs only [go_sem, start, startE, resVs, resV, resC, allV, retK, Nat.reduceBEq, Nat.reduceAdd, Nat.reduceMul, Nat.reduceLeDiff, Nat.reduceEqDiff, Nat.reduceBNe, Nat.ble_eq, UInt8.reduceToNat, UInt32.reduceToNat]
    exact hq _ _ s ((Sub.refl s).set hb1) (.inr ⟨rfl, rfl, _, rfl⟩)
  · have hn : 0 < l.length := List.length_pos_iff.2 hl
    refine appendAW_new rfl rfl (by omega) (by rw [Nat.zero_add]; exact hr) fun b2 cap hb2 hcap => ?_
    rw [Nat.zero_add] at hcap
    have hz : (List.replicate (cap - (0 + l.length)) [.int .i64 0, .int .i64 0, .str [], .sl false 4 0 []]).flatten = flat (List.replicate (cap - l.length) (⟨0, 0, ⟨[]⟩, []⟩ : api_Value)) := by
      rw [flat_rep, Nat.zero_add]; rfl
    rw [hz]
    simp -implicitDefEqProofs only [go_sem, start, startE, resVs, resV, resC, allV, retK, Nat.reduceBEq, Nat.reduceAdd, Nat.reduceMul, Nat.reduceLeDiff, Nat.reduceEqDiff, Nat.reduceBNe, Nat.ble_eq, UInt8.reduceToNat, UInt32.reduceToNat, Nat.zero_add, List.nil_append]
    have hb2' : s b2 = none := ((Sub.refl s).set hb1).none hb2
    refine hq _ _ _ (Sub.set2 ((Sub.refl s).set hb1)) (.inl ⟨b2, cap, _, rfl, hb2', by omega, hcap, ?_, ?_, rfl⟩)
    · rw [List.length_append, flat_len, flat_len, List.length_replicate]
      show l.length * 4 + (cap - l.length) * 4 = cap * 4
      omega
    · rw [views_append, flat_views, flat_views]
theorem cloneV_us {o : Bool} {l : List api_Value} {s : Store} (hr : l.length * 56 ≤ room) : FE Go.Proofs.Tryz.prog 51 [.sl o 4 l.length (flat l)] s [.us 4 l.length (flat l)] s :=
  FN.row_us (flat_len l) ⟨rfl, rfl⟩ ((cloneV_arr hr).mono fun rs s' h => by
    rcases h with ⟨b, cap, sp, h1, h2, h3, h4, h5, h6, h7⟩ | ⟨h1, h2, h3⟩
    · exact .inl ⟨b, cap, sp, h1, by rw [h7]; exact set_at, h3, h4, h5, h6, by rw [h7, del_set h2]; exact Sub.refl s⟩
    · subst h1; exact .inr ⟨rfl, rfl, by rw [h2]; exact Sub.refl s, h3⟩)
end Go.AB
end

section
namespace Go.AB
open Go
end Go.AB
end

section
namespace Go.AB
open Go
attribute [-go_sem] Nat.add_zero ge_0 part_zero
def value_find (v_0 : api_Value) (key_1 : Str) : Option (Int) :=
 if v_0.Kind != 7 then
  some (-1)
 else
  jnS (
   bndS (
    iter (fun (i2 : Int) =>
     if decide (i2 < (v_0.L.length : Int)) then
      need (0 ≤ i2 ∧ i2 < v_0.L.length) <|
      need ((((ix v_0.L i2).Kind) == 5) = true → 0 ≤ i2 ∧ i2 < v_0.L.length) <|
      if (((ix v_0.L i2).Kind) == 5) && (((ix v_0.L i2).S).b == key_1.b) then
       some (.inr (.inr i2))
      else
       some (.inl (w64 (i2 + 2)))
     else
      some (.inr (.inl ()))) 0) (fun (_ : Unit) =>
    some (.inl ()))
   (fun (t3 : Int) => some (.inr t3))) (fun (_ : Unit) =>
   some (-1))
  (fun (t1 : Int) => some t1)
def ir_value_find : IC :=
 (.seq (.reg none [i1 2 (.boxL 4 (.t 0)),
 mi 4 0] [1, 2])
 (.seq (.seq (.reg none [fa 6 0 2,
 ld 7 1 6,
 bn 8 .neq 7 7] [1, 2, 8])
 (.cond (.t 8) (.seq (.reg none [mi 4 (-1)] [4])
 .ret)
 .skip))
 (.join [] (.seq (.reg none [mi 5 0] [1, 2, 5])
 (.block 0 (.loop [(1, false), (2, false), (5, false)] (.seq (.seq (.reg none [mv 9 5,
 fa 10 3 2,
 ld 11 1 10,
 le 12 0 11,
 bt 13 .lss 9 12] [1, 2, 5, 13])
 (.cond (.t 13) .skip
 (.exit 0)))
 (.seq (.block 1 (.seq (.reg none [fa 16 3 2,
 ld 17 1 16,
 mv 18 5,
 ia 19 [.int .i64 0, .int .i64 0, .str [], .sl false 4 0 []] 17 18,
 fa 20 0 19,
 ld 21 1 20,
 bn 22 .eql 21 5,
 mv 23 22,
 fg 24 23 true 3 2,
 lg 25 23 true 1 24,
 mvg 26 5 23 true,
 i1g 27 23 true (.indexAddr [.int .i64 0, .int .i64 0, .str [], .sl false 4 0 []] (.t 25) (.t 26)),
 fg 28 23 true 2 27,
 lg 29 23 true 1 28,
 mvg 30 1 23 true,
 i1g 31 23 true (.bin .eql (.t 29) (.t 30)),
 pf 32 23 31] [1, 2, 5, 32])
 (.cond (.t 32) (.seq (.reg none [mv 33 5,
 mv 4 33] [4])
 .ret)
 .skip)))
 (.reg none [mv 14 5,
 bn 15 .add 14 2,
 mv 5 15] [1, 2, 5]))))))
 (.seq (.reg none [mi 4 (-1)] [4])
 .ret))))
def res_value_find : List IRes := [⟨4, true, none⟩]
theorem is_value_find : fnIs Go.Proofs.Tryz.prog 52 34 res_value_find ir_value_find = true := by kernel_rfl
theorem value_find_fn {v_0 key_1} {s : Store} {Q : List AV → Store → Prop}  : ok (value_find v_0 key_1) (fun r => Q [.int .i64 r] s) → FN Go.Proofs.Tryz.prog 52 [.agg [.int .i64 v_0.Kind, .int .i64 v_0.N, .str v_0.S.b, .sl false 4 v_0.L.length (flat v_0.L)], .str key_1.b] s Q := by
 intro h
 refine FN.of (draw_ok mix) is_value_find rfl (Nat.le_of_ble_eq_true rfl) ?_
 revert h
 rw [ir_value_find, res_value_find, value_find]
 repeat' (first
  | with_reducible exact tt_to
  | with_reducible refine and_to ?_ ?_
  | with_reducible exact im_and
  | with_reducible refine im_to ?_
  | ((with_reducible refine iter_to (fun (i2 : Int) => ⟨[(1, .str key_1.b), (2, .loc [.int .i64 v_0.Kind, .int .i64 v_0.N, .str v_0.S.b, .sl false 4 v_0.L.length (flat v_0.L)]), (5, .int .i64 i2)], [], s⟩) ?_ ?_); (first | exact rfl | simp -implicitDefEqProofs only [go_sem, seval]); rintro J i2)
  | ((with_reducible refine join_toS (fun (_ : Unit) => ⟨[], [], s⟩) (fun J => ?_) ?_); rotate_left; rintro _)
  | simp -implicitDefEqProofs only [go_sem, seval])
theorem value_find_fe {v_0 key_1} {s : Store} {r : Int}  (h : value_find v_0 key_1 = some r) : FE Go.Proofs.Tryz.prog 52 [.agg [.int .i64 v_0.Kind, .int .i64 v_0.N, .str v_0.S.b, .sl false 4 v_0.L.length (flat v_0.L)], .str key_1.b] s [.int .i64 r] s := value_find_fn  ⟨r, h, rfl, rfl⟩
theorem Sub.trans {s1 s2 s3 : Store} (h : Sub s1 s2) (k : Sub s2 s3) : Sub s1 s3 := fun b o h' => k b o (h b o h')
theorem FN.args {P : Program} {f : FuncId} {args args' : List AV} {s : Store} {Q : List AV → Store → Prop} (h : FN P f args' s Q) (ha : ∀ (G : Gh) (w : World) (vs : Array Value), StoreR G w s → ArgsR w G.R args vs → ArgsR w G.R args' vs) : FN P f args s Q :=
 fun G w vs h1 h2 h3 h4 => h G w vs h1 h2 h3 (ha G w vs h3 h4)
end Go.AB
end

section
namespace Go.AB
open Go
attribute [-go_sem] Nat.add_zero ge_0 part_zero
def ir_value_Drop : IC :=
 (.seq (.reg none [i1 2 (.boxL 4 (.t 0)),
 i1 4 (.allocL [.int .i64 0, .int .i64 0, .str [], .sl true 4 0 []])] [1, 2, 4])
 (.seq (.reg none [lm 6 4 2,
 mv 7 1,
 c2 8 52 6 7,
 mv 5 8] [2, 4, 5])
 (.seq (.seq (.reg none [mv 9 5,
 bn 10 .lss 9 0] [2, 4, 5, 10])
 (.cond (.t 10) (.seq (.reg none [lm 11 4 2,
 st 4 4 11] [4])
 .ret)
 .skip))
 (.seq (.reg (some 10) [fa 12 3 2,
 ld 13 1 12,
 c1 14 51 13,
 mv 15 5,
 mv 16 5,
 bn 17 .add 16 2,
 fa 18 3 2,
 ld 19 1 18,
 le 20 0 19,
 i1 21 (.minmax false [(.t 17), (.t 20)]),
 i1 22 (.callU 105 14 [(.t 14), (.t 15), (.t 21)]),
 fa 23 3 2,
 st 1 23 22] [2, 4])
 (.seq (.reg none [lm 24 4 2,
 st 4 4 24] [4])
 .ret)))))
def res_value_Drop : List IRes := [⟨4, false, some (4, true)⟩]
theorem is_value_Drop : fnIs Go.Proofs.Tryz.prog 64 25 res_value_Drop ir_value_Drop = true := by kernel_rfl
def value_Drop (v : api_Value) (key : Str) : Option api_Value :=
 bnd (value_find v key) fun i =>
 if decide (i < 0) then some v else
 need (0 ≤ i ∧ i < v.L.length ∧ v.L.length * 56 ≤ room) <|
 some ⟨v.Kind, v.N, v.S, v.L.take i.toNat ++ v.L.drop (min (i.toNat + 2) v.L.length)⟩
theorem value_Drop_fn {v : api_Value} {key : Str} {s : Store} {Q : List AV → Store → Prop} (h : ok (value_Drop v key) fun r => Q [.agg [.int .i64 r.Kind, .int .i64 r.N, .str r.S.b, .sl false 4 r.L.length (flat r.L)]] s) :
    FN Go.Proofs.Tryz.prog 64 [.agg [.int .i64 v.Kind, .int .i64 v.N, .str v.S.b, .sl false 4 v.L.length (flat v.L)], .str key.b] s Q := by
  obtain ⟨vk, vn, vs, vl⟩ := v
  refine FN.of (draw_ok mix) is_value_Drop rfl (Nat.le_of_ble_eq_true rfl) ?_
  unfold value_Drop at h
  rw [ok_bnd] at h
  obtain ⟨i, hfi, h⟩ := h
  rw [ok_ite, ok_need, ok_some, ok_some] at h
  rw [ir_value_Drop, res_value_Drop]
  simp -implicitDefEqProofs only [go_sem, start, startE, resVs, resV, resC, allV, retK, Nat.reduceBEq, Nat.reduceAdd, Nat.reduceMul, Nat.reduceLeDiff, Nat.reduceEqDiff, Nat.reduceBNe, Nat.ble_eq, UInt8.reduceToNat, UInt32.reduceToNat]
  refine FE.app (value_find_fe hfi) ?_
  simp -implicitDefEqProofs only [go_sem, start, startE, resVs, resV, resC, allV, retK, Nat.reduceBEq, Nat.reduceAdd, Nat.reduceMul, Nat.reduceLeDiff, Nat.reduceEqDiff, Nat.reduceBNe, Nat.ble_eq, UInt8.reduceToNat, UInt32.reduceToNat]
  refine ⟨fun hi => h.1 hi, fun hi => ?_⟩
  obtain ⟨⟨h1, h2, h3⟩, hq⟩ := h.2 hi
  obtain ⟨j, rfl⟩ : ∃ j : Nat, i = (j : Int) := ⟨i.toNat, by omega⟩
  replace h2 : j < vl.length := by have : (j : Int) < vl.length := h2; omega
  replace h3 : vl.length * 56 ≤ room := h3
  replace hq : Q [.agg [.int .i64 vk, .int .i64 vn, .str vs.b, .sl false 4 (vl.take j ++ vl.drop (min (j + 2) vl.length)).length (flat (vl.take j ++ vl.drop (min (j + 2) vl.length)))]] s := hq
  have hw2 : w64 ((j : Int) + 2) = ((j + 2 : Nat) : Int) := by unfold room at h3; rw [w64_id (by omega) (by omega)]; omega
  refine ⟨_, rfl, cloneV_us h3, ?_⟩
  simp -implicitDefEqProofs only [go_sem, start, startE, resVs, resV, resC, allV, retK, Nat.reduceBEq, Nat.reduceAdd, Nat.reduceMul, Nat.reduceLeDiff, Nat.reduceEqDiff, Nat.reduceBNe, Nat.ble_eq, UInt8.reduceToNat, UInt32.reduceToNat, hw2]
  refine ⟨fun b cap sp hb h0 hn hl hfl hvw => ?_, fun h0 => by omega⟩
  simp -implicitDefEqProofs only [go_sem, start, startE, resVs, resV, resC, allV, retK, Nat.reduceBEq, Nat.reduceAdd, Nat.reduceMul, Nat.reduceLeDiff, Nat.reduceEqDiff, Nat.reduceBNe, Nat.ble_eq, UInt8.reduceToNat, UInt32.reduceToNat]
  generalize hm : min (j + 2) vl.length = m at hq
  rw [show min ((j + 2 : Nat) : Int) (vl.length : Int) = (m : Int) by omega]
  have el : (vl.take j ++ vl.drop m).length = vl.length - (m - j) := by
    simp only [List.length_append, List.length_take, List.length_drop]; omega
  rw [el] at hq
  refine FN.row_sl (n := vl.length - (m - j)) (cs := flat (vl.take j ++ vl.drop m)) (s2 := s) (sz := 4) (by rw [flat_len, el]; rfl) (flat_views _) ?_ (deleteV_arr set_at hl hn (by omega) (by omega) (by unfold room at h3; omega) ?_)
  · generalize vl.take j ++ vl.drop m = L at hq
    simp -implicitDefEqProofs only [go_sem, start, startE, resVs, resV, resC, allV, retK, Nat.reduceBEq, Nat.reduceAdd, Nat.reduceMul, Nat.reduceLeDiff, Nat.reduceEqDiff, Nat.reduceBNe, Nat.ble_eq, UInt8.reduceToNat, UInt32.reduceToNat]
    exact hq
  · refine .inl ⟨b, cap, _, rfl, set_at, h0, by omega, ?_, ?_⟩
    · have hl' := hl
      rw [List.length_append, flat_len] at hl'
      rw [List.length_append, List.length_append, flat_len, flat_len, el, List.length_replicate]
      have hw : Enc.w api_Value = 4 := rfl
      rw [hw] at hl' ⊢
      omega
    · rw [set_set, del_set hb]; exact Sub.refl s
theorem value_Drop_fe {v_0 : api_Value} {key_1 : Str} {s : Store} {r : api_Value} (h : value_Drop v_0 key_1 = some r) : FE Go.Proofs.Tryz.prog 64 [.agg [.int .i64 v_0.Kind, .int .i64 v_0.N, .str v_0.S.b, .sl false 4 v_0.L.length (flat v_0.L)], .str key_1.b] s [.agg [.int .i64 r.Kind, .int .i64 r.N, .str r.S.b, .sl false 4 r.L.length (flat r.L)]] s :=
 value_Drop_fn ⟨r, h, rfl, rfl⟩
end Go.AB
end

section
namespace Go.AB
open Go
end Go.AB
end

section
set_option maxRecDepth 4000
namespace Go.AB
open Go
attribute [-go_sem] Nat.add_zero ge_0 part_zero
structure api_Object where
 V : api_Value
 Stream : Bool
 Data : Str
instance : Enc api_Object := ⟨6, fun x => [.int .i64 x.V.Kind, .int .i64 x.V.N, .str x.V.S.b, .sl false 4 x.V.L.length (flat x.V.L), .bool x.Stream, .str x.Data.b], (api_Object.mk (api_Value.mk 0 0 (Str.mk []) []) false (Str.mk [])), by decide, fun _ => rfl, fun _ => rfl⟩
@[go_sem] theorem cells_api_Object (x : api_Object) : Enc.cells x = [.int .i64 x.V.Kind, .int .i64 x.V.N, .str x.V.S.b, .sl false 4 x.V.L.length (flat x.V.L), .bool x.Stream, .str x.Data.b] := rfl
def value_Depth : Nat → api_Value → Option (Int)
 | 0, _ => none
 | fuel + 1, v_0 =>
  jn (
   if (v_0.Kind == 6) || (v_0.Kind == 7) then
    iter (fun ((deep2, t3) : Int × Int) =>
     if decide (t3 < (v_0.L.length : Int)) then
      need (0 ≤ t3 ∧ t3 < v_0.L.length) <|
      bnd (value_Depth fuel (ix v_0.L t3)) fun r5 =>
      some (.inl (max deep2 r5, w64 (t3 + 1)))
     else
      some (.inr deep2)) (0, 0)
   else
    some 0) fun (deep1 : Int) =>
  some (w64 (1 + deep1))
def ir_value_Depth : IC :=
 (.seq (.reg none [i1 1 (.boxL 4 (.t 0)),
 mi 2 0] [1])
 (.seq (.reg none [mi 3 0] [1, 3])
 (.join [(3, false)] (.seq (.reg none [fa 6 0 1,
 ld 7 1 6,
 bn 8 .eql 7 6,
 mv 9 8,
 fg 10 9 false 0 1,
 lg 11 9 false 1 10,
 i1g 12 9 false (.bin .eql (.t 11) (.c (.int .i64 7))),
 po 13 9 12] [1, 3, 13])
 (.cond (.t 13) (.seq (.reg none [fa 14 3 1,
 ld 15 1 14,
 le 16 0 15,
 mi 17 0] [3, 15, 16, 17])
 (.block 0 (.loop [(3, false), (15, true), (16, false), (17, false)] (.seq (.reg none [bt 18 .lss 17 16] [3, 15, 16, 17, 18])
 (.seq (.cond (.t 18) .skip
 (.exit 0))
 (.seq (.block 1 (.seq (.reg none [ia 19 [.int .i64 0, .int .i64 0, .str [], .sl false 4 0 []] 15 17,
 lm 20 4 19,
 i1 5 (.allocL [.int .i64 0, .int .i64 0, .str [], .sl true 4 0 []]),
 st 4 5 20] [3, 5, 15, 16, 17])
 (.reg none [mv 21 3,
 lm 22 4 5,
 c1 23 35 22,
 i1 24 (.minmax true [(.t 21), (.t 23)]),
 mv 3 24] [3, 15, 16, 17])))
 (.reg none [bn 25 .add 17 1,
 mv 17 25] [3, 15, 16, 17])))))))
 .skip))
 (.seq (.reg none [mv 26 3,
 i1 27 (.bin .add (.c (.int .i64 1)) (.t 26)),
 mv 2 27] [2])
 .ret))))
def res_value_Depth : List IRes := [⟨2, true, none⟩]
theorem is_value_Depth : fnIs Go.Proofs.Tryz.prog 35 28 res_value_Depth ir_value_Depth = true := by kernel_rfl
theorem value_Depth_fn {fuel : Nat} : ∀ {v_0 : api_Value} {s : Store} {Q : List AV → Store → Prop} , ok (value_Depth fuel v_0) (fun r => Q [.int .i64 r] s) → FN Go.Proofs.Tryz.prog 35 [.agg [.int .i64 v_0.Kind, .int .i64 v_0.N, .str v_0.S.b, .sl false 4 v_0.L.length (flat v_0.L)]] s Q := by
 induction fuel with
 | zero => intros; rename_i h; rw [value_Depth] at h; exact absurd h (by rw [ok_none]; exact fun h => h)
 | succ fuel ih =>
 have ihfe : ∀ {v_0 : api_Value} {s : Store} {r : Int} , value_Depth fuel v_0 = some r → FE Go.Proofs.Tryz.prog 35 [.agg [.int .i64 v_0.Kind, .int .i64 v_0.N, .str v_0.S.b, .sl false 4 v_0.L.length (flat v_0.L)]] s [.int .i64 r] s := fun  h => ih  ⟨_, h, rfl, rfl⟩
 intro v_0  s Q 
 intro h
 refine FN.of (draw_ok mix) is_value_Depth rfl (Nat.le_of_ble_eq_true rfl) ?_
 revert h
 rw [ir_value_Depth, res_value_Depth, value_Depth]
 repeat' (first
  | with_reducible exact tt_to
  | with_reducible refine and_to ?_ ?_
  | with_reducible refine im_to ?_
  | with_reducible refine call_to (fun _ (h : value_Depth fuel (ix v_0.L t3) = some _) => ihfe h) (fun r5 => ?_)
  | ((with_reducible refine iter_to (fun ((deep2, t3) : Int × Int) => ⟨[(3, .int .i64 deep2), (15, .sl false 4 v_0.L.length (flat v_0.L)), (16, .int .i64 (v_0.L.length : Int)), (17, .int .i64 t3)], [], s⟩) ?_ ?_); (first | exact rfl | simp -implicitDefEqProofs only [go_sem, seval]); rintro J ⟨deep2, t3⟩)
  | ((with_reducible refine join_to (fun (deep1 : Int) => ⟨[(3, .int .i64 deep1)], [], s⟩) (fun J => ?_) ?_); rotate_left; rintro deep1)
  | simp -implicitDefEqProofs only [go_sem, seval])
theorem value_Depth_fe {fuel : Nat} {v_0} {s : Store} {r : Int}  (h : value_Depth fuel v_0 = some r) : FE Go.Proofs.Tryz.prog 35 [.agg [.int .i64 v_0.Kind, .int .i64 v_0.N, .str v_0.S.b, .sl false 4 v_0.L.length (flat v_0.L)]] s [.int .i64 r] s := value_Depth_fn  ⟨r, h, rfl, rfl⟩
def value_plain (v_0 : api_Value) : Option (Bool) :=
 some (((v_0.N == 0) && (v_0.S.b == (Str.mk []).b)) && ((v_0.L.length : Int) == 0))
def ir_value_plain : IC :=
 (.seq (.reg none [i1 1 (.boxL 4 (.t 0)),
 mkk 2 (.bool false)] [1])
 (.seq (.reg none [fa 3 1 1,
 ld 4 1 3,
 bn 5 .eql 4 0,
 mv 6 5,
 fg 7 6 true 2 1,
 lg 8 6 true 1 7,
 i1g 9 6 true (.bin .eql (.t 8) (.c (.str []))),
 pf 10 6 9,
 mv 11 10,
 fg 12 11 true 3 1,
 lg 13 11 true 1 12,
 i1g 14 11 true (.len 0 (.t 13)),
 i1g 15 11 true (.bin .eql (.t 14) (.c (.int .i64 0))),
 pf 16 11 15,
 mv 2 16] [2])
 .ret))
def res_value_plain : List IRes := [⟨2, true, none⟩]
theorem is_value_plain : fnIs Go.Proofs.Tryz.prog 65 17 res_value_plain ir_value_plain = true := by kernel_rfl
theorem value_plain_fn {v_0} {s : Store} {Q : List AV → Store → Prop}  : ok (value_plain v_0) (fun r => Q [.bool r] s) → FN Go.Proofs.Tryz.prog 65 [.agg [.int .i64 v_0.Kind, .int .i64 v_0.N, .str v_0.S.b, .sl false 4 v_0.L.length (flat v_0.L)]] s Q := by
 intro h
 refine FN.of (draw_ok mix) is_value_plain rfl (Nat.le_of_ble_eq_true rfl) ?_
 revert h
 rw [ir_value_plain, res_value_plain, value_plain]
 repeat' (first
  | simp -implicitDefEqProofs only [go_sem, seval])
theorem value_plain_fe {v_0} {s : Store} {r : Bool}  (h : value_plain v_0 = some r) : FE Go.Proofs.Tryz.prog 65 [.agg [.int .i64 v_0.Kind, .int .i64 v_0.N, .str v_0.S.b, .sl false 4 v_0.L.length (flat v_0.L)]] s [.bool r] s := value_plain_fn  ⟨r, h, rfl, rfl⟩
def value_dict (v_0 : api_Value) : Option (Int) :=
 if (Int.tmod (v_0.L.length : Int) 2) == 1 then
  some 2
 else
  jnS (
   bndS (
    iter (fun (i3 : Int) =>
     if decide (i3 < (v_0.L.length : Int)) then
      need (0 ≤ i3 ∧ i3 < v_0.L.length) <|
      if ((ix v_0.L i3).Kind) != 5 then
       some (.inr (.inr (2 : Int)))
      else
       some (.inl (w64 (i3 + 2)))
     else
      some (.inr (.inl ()))) 0) (fun (_ : Unit) =>
    some (.inl ()))
   (fun (t5 : Int) => some (.inr t5))) (fun (_ : Unit) =>
   jnS (
    bndS (
     iter (fun (i7 : Int) =>
      if decide (i7 < (v_0.L.length : Int)) then
       need (0 ≤ w64 (i7 - 2) ∧ w64 (i7 - 2) < v_0.L.length) <|
       need (0 ≤ i7 ∧ i7 < v_0.L.length) <|
       if !(Op.bytesLess ((ix v_0.L (w64 (i7 - 2))).S).b ((ix v_0.L i7).S).b) then
        some (.inr (.inr (16 : Int)))
       else
        some (.inl (w64 (i7 + 2)))
      else
       some (.inr (.inl ()))) 2) (fun (_ : Unit) =>
     some (.inl ()))
    (fun (t8 : Int) => some (.inr t8))) (fun (_ : Unit) =>
    some 0)
   (fun (t6 : Int) => some t6))
  (fun (t2 : Int) => some t2)
def ir_value_dict : IC :=
 (.seq (.reg none [i1 1 (.boxL 4 (.t 0)),
 mi 2 0] [1])
 (.seq (.seq (.reg none [fa 5 3 1,
 ld 6 1 5,
 le 7 0 6,
 bn 8 .rem 7 2,
 bn 9 .eql 8 1] [1, 9])
 (.cond (.t 9) (.seq (.reg none [mi 2 2] [2])
 .ret)
 .skip))
 (.join [(1, false)] (.seq (.reg none [mi 3 0] [1, 3])
 (.block 0 (.loop [(1, false), (3, false)] (.seq (.seq (.reg none [mv 10 3,
 fa 11 3 1,
 ld 12 1 11,
 le 13 0 12,
 bt 14 .lss 10 13] [1, 3, 14])
 (.cond (.t 14) .skip
 (.exit 0)))
 (.seq (.block 1 (.seq (.reg none [fa 17 3 1,
 ld 18 1 17,
 mv 19 3,
 ia 20 [.int .i64 0, .int .i64 0, .str [], .sl false 4 0 []] 18 19,
 fa 21 0 20,
 ld 22 1 21,
 bn 23 .neq 22 5] [1, 3, 23])
 (.cond (.t 23) (.seq (.reg none [mi 2 2] [2])
 .ret)
 .skip)))
 (.reg none [mv 15 3,
 bn 16 .add 15 2,
 mv 3 16] [1, 3]))))))
 (.join [] (.seq (.reg none [mi 4 2] [1, 4])
 (.block 2 (.loop [(1, false), (4, false)] (.seq (.seq (.reg none [mv 24 4,
 fa 25 3 1,
 ld 26 1 25,
 le 27 0 26,
 bt 28 .lss 24 27] [1, 4, 28])
 (.cond (.t 28) .skip
 (.exit 2)))
 (.seq (.block 3 (.seq (.reg (some 14) [fa 31 3 1,
 ld 32 1 31,
 mv 33 4,
 bn 34 .sub 33 2,
 ia 35 [.int .i64 0, .int .i64 0, .str [], .sl false 4 0 []] 32 34,
 fa 36 2 35,
 ld 37 1 36,
 fa 38 3 1,
 ld 39 1 38,
 mv 40 4,
 ia 41 [.int .i64 0, .int .i64 0, .str [], .sl false 4 0 []] 39 40,
 fa 42 2 41,
 ld 43 1 42,
 bt 44 .geq 37 43] [1, 4, 44])
 (.cond (.t 44) (.seq (.reg none [mi 2 16] [2])
 .ret)
 .skip)))
 (.reg none [mv 29 4,
 bn 30 .add 29 2,
 mv 4 30] [1, 4]))))))
 (.seq (.reg none [mi 2 0] [2])
 .ret)))))
def res_value_dict : List IRes := [⟨2, true, none⟩]
theorem is_value_dict : fnIs Go.Proofs.Tryz.prog 68 45 res_value_dict ir_value_dict = true := by kernel_rfl
theorem value_dict_fn {v_0} {s : Store} {Q : List AV → Store → Prop}  : ok (value_dict v_0) (fun r => Q [.int .i64 r] s) → FN Go.Proofs.Tryz.prog 68 [.agg [.int .i64 v_0.Kind, .int .i64 v_0.N, .str v_0.S.b, .sl false 4 v_0.L.length (flat v_0.L)]] s Q := by
 intro h
 refine FN.of (draw_ok mix) is_value_dict rfl (Nat.le_of_ble_eq_true rfl) ?_
 revert h
 rw [ir_value_dict, res_value_dict, value_dict]
 repeat' (first
  | with_reducible exact tt_to
  | with_reducible refine and_to ?_ ?_
  | with_reducible refine im_to ?_
  | ((with_reducible refine iter_to (fun (i3 : Int) => ⟨[(1, .loc [.int .i64 v_0.Kind, .int .i64 v_0.N, .str v_0.S.b, .sl false 4 v_0.L.length (flat v_0.L)]), (3, .int .i64 i3)], [], s⟩) ?_ ?_); (first | exact rfl | simp -implicitDefEqProofs only [go_sem, seval]); rintro J i3)
  | ((with_reducible refine join_toS (live := [(1, false)]) (fun (_ : Unit) => ⟨[(1, .loc [.int .i64 v_0.Kind, .int .i64 v_0.N, .str v_0.S.b, .sl false 4 v_0.L.length (flat v_0.L)])], [], s⟩) (fun J => ?_) ?_); rotate_left; rintro _)
  | ((with_reducible refine iter_to (fun (i7 : Int) => ⟨[(1, .loc [.int .i64 v_0.Kind, .int .i64 v_0.N, .str v_0.S.b, .sl false 4 v_0.L.length (flat v_0.L)]), (4, .int .i64 i7)], [], s⟩) ?_ ?_); (first | exact rfl | simp -implicitDefEqProofs only [go_sem, seval]); rintro J i7)
  | ((with_reducible refine join_toS (live := []) (fun (_ : Unit) => ⟨[], [], s⟩) (fun J => ?_) ?_); rotate_left; rintro _)
  | simp -implicitDefEqProofs only [go_sem, seval])
theorem value_dict_fe {v_0} {s : Store} {r : Int}  (h : value_dict v_0 = some r) : FE Go.Proofs.Tryz.prog 68 [.agg [.int .i64 v_0.Kind, .int .i64 v_0.N, .str v_0.S.b, .sl false 4 v_0.L.length (flat v_0.L)]] s [.int .i64 r] s := value_dict_fn  ⟨r, h, rfl, rfl⟩
def value_own (v_0 : api_Value) : Option (Int) :=
 jnS (
  if v_0.Kind == 0 then
   bnd (value_plain v_0) fun r3 =>
   some (.inl r3)
  else
   if v_0.Kind == 1 then
    some (.inl ((((v_0.N == 0) || (v_0.N == 1)) && (v_0.S.b == (Str.mk []).b)) && ((v_0.L.length : Int) == 0)))
   else
    jn (
     if v_0.Kind == 2 then
      some (v_0.Kind == 2)
     else
      some (v_0.Kind == 3)) fun (t7 : Bool) =>
    if t7 then
     bnd (num_Check v_0) fun r8 =>
     some (.inr r8)
    else
     if v_0.Kind == 4 then
      some (.inl ((v_0.N == 0) && ((v_0.L.length : Int) == 0)))
     else
      if v_0.Kind == 5 then
       bnd (whenB (!(decide ((v_0.S.b.length : Int) > 127))) 0 (strings_IndexByte v_0.S 0)) fun r9 =>
       if (decide ((v_0.S.b.length : Int) > 127)) || (decide (r9 ≥ 0)) then
        some (.inr (17 : Int))
       else
        some (.inl ((v_0.N == 0) && ((v_0.L.length : Int) == 0)))
      else
       if v_0.Kind == 8 then
        some (.inl ((((decide (v_0.N ≥ 1)) && (decide (v_0.N ≤ 4096))) && (v_0.S.b == (Str.mk []).b)) && ((v_0.L.length : Int) == 0)))
       else
        if v_0.Kind == 6 then
         some (.inl ((v_0.N == 0) && (v_0.S.b == (Str.mk []).b)))
        else
         if v_0.Kind == 7 then
          if (v_0.N == 0) && (v_0.S.b == (Str.mk []).b) then
           bnd (value_dict v_0) fun r10 =>
           some (.inr r10)
          else
           some (.inl false)
         else
          some (.inl false)) (fun (fine1 : Bool) =>
  if !fine1 then
   some 2
  else
   some 0)
 (fun (t2 : Int) => some t2)
def ir_value_own : IC :=
 (.seq (.reg none [i1 1 (.boxL 4 (.t 0)),
 mi 2 0] [1])
 (.seq (.reg none [mkk 3 (.bool false)] [1, 3])
 (.join [(3, false)] (.seq (.reg none [fa 4 0 1,
 ld 5 1 4] [1, 3, 5])
 (.block 0 (.seq (.reg none [bn 7 .eql 5 0,
 mv 6 7] [1, 3, 5, 6])
 (.cond (.t 6) (.reg none [lm 8 4 1,
 c1 9 65 8,
 mv 3 9] [3])
 (.seq (.reg none [bn 11 .eql 5 1,
 mv 10 11] [1, 3, 5, 10])
 (.cond (.t 10) (.reg none [fa 12 1 1,
 ld 13 1 12,
 bn 14 .eql 13 0,
 mv 15 14,
 fg 16 15 false 1 1,
 lg 17 15 false 1 16,
 i1g 18 15 false (.bin .eql (.t 17) (.c (.int .i64 1))),
 po 19 15 18,
 mv 20 19,
 fg 21 20 true 2 1,
 lg 22 20 true 1 21,
 i1g 23 20 true (.bin .eql (.t 22) (.c (.str []))),
 pf 24 20 23,
 mv 25 24,
 fg 26 25 true 3 1,
 lg 27 25 true 1 26,
 i1g 28 25 true (.len 0 (.t 27)),
 i1g 29 25 true (.bin .eql (.t 28) (.c (.int .i64 0))),
 pf 30 25 29,
 mv 3 30] [3])
 (.join [(1, false), (3, false), (5, false), (31, false)] (.seq (.reg none [bn 32 .eql 5 2,
 mv 31 32] [1, 3, 5, 31])
 (.cond (.t 31) .skip
 (.reg none [bn 33 .eql 5 3,
 mv 31 33] [1, 3, 5, 31])))
 (.cond (.t 31) (.seq (.reg none [lm 34 4 1,
 c1 35 66 34,
 mv 2 35] [2])
 .ret)
 (.seq (.reg none [bn 37 .eql 5 4,
 mv 36 37] [1, 3, 5, 36])
 (.cond (.t 36) (.reg none [fa 38 1 1,
 ld 39 1 38,
 bn 40 .eql 39 0,
 mv 41 40,
 fg 42 41 true 3 1,
 lg 43 41 true 1 42,
 i1g 44 41 true (.len 0 (.t 43)),
 i1g 45 41 true (.bin .eql (.t 44) (.c (.int .i64 0))),
 pf 46 41 45,
 mv 3 46] [3])
 (.seq (.reg none [bn 48 .eql 5 5,
 mv 47 48] [1, 3, 5, 47])
 (.cond (.t 47) (.seq (.seq (.reg (some 8) [fa 49 2 1,
 ld 50 1 49,
 le 51 1 50,
 bn 52 .gtr 51 127,
 mv 53 52,
 fg 54 53 false 2 1,
 lg 55 53 false 1 54,
 i1g 56 53 false (.call 67 [(.t 55), (.c (.int .u8 0))]),
 i1g 57 53 false (.bin .geq (.t 56) (.c (.int .i64 0))),
 po 58 53 57] [1, 58])
 (.cond (.t 58) (.seq (.reg none [mi 2 17] [2])
 .ret)
 .skip))
 (.reg none [fa 59 1 1,
 ld 60 1 59,
 bn 61 .eql 60 0,
 mv 62 61,
 fg 63 62 true 3 1,
 lg 64 62 true 1 63,
 i1g 65 62 true (.len 0 (.t 64)),
 i1g 66 62 true (.bin .eql (.t 65) (.c (.int .i64 0))),
 pf 67 62 66,
 mv 3 67] [3]))
 (.seq (.reg none [bn 69 .eql 5 8,
 mv 68 69] [1, 3, 5, 68])
 (.cond (.t 68) (.reg none [fa 70 1 1,
 ld 71 1 70,
 bn 72 .geq 71 1,
 mv 73 72,
 fg 74 73 true 1 1,
 lg 75 73 true 1 74,
 i1g 76 73 true (.bin .leq (.t 75) (.c (.int .i64 4096))),
 pf 77 73 76,
 mv 78 77,
 fg 79 78 true 2 1,
 lg 80 78 true 1 79,
 i1g 81 78 true (.bin .eql (.t 80) (.c (.str []))),
 pf 82 78 81,
 mv 83 82,
 fg 84 83 true 3 1,
 lg 85 83 true 1 84,
 i1g 86 83 true (.len 0 (.t 85)),
 i1g 87 83 true (.bin .eql (.t 86) (.c (.int .i64 0))),
 pf 88 83 87,
 mv 3 88] [3])
 (.seq (.reg none [bn 90 .eql 5 6,
 mv 89 90] [1, 3, 5, 89])
 (.cond (.t 89) (.reg none [fa 91 1 1,
 ld 92 1 91,
 bn 93 .eql 92 0,
 mv 94 93,
 fg 95 94 true 2 1,
 lg 96 94 true 1 95,
 i1g 97 94 true (.bin .eql (.t 96) (.c (.str []))),
 pf 98 94 97,
 mv 3 98] [3])
 (.seq (.reg none [bn 100 .eql 5 7,
 mv 99 100] [1, 3, 99])
 (.cond (.t 99) (.seq (.reg none [fa 101 1 1,
 ld 102 1 101,
 bn 103 .eql 102 0,
 mv 104 103,
 fg 105 104 true 2 1,
 lg 106 104 true 1 105,
 i1g 107 104 true (.bin .eql (.t 106) (.c (.str []))),
 pf 108 104 107] [1, 3, 108])
 (.cond (.t 108) (.seq (.reg none [lm 109 4 1,
 c1 110 68 109,
 mv 2 110] [2])
 .ret)
 .skip))
 .skip))))))))))))))))))
 (.seq (.seq (.reg none [mv 111 3,
 no 112 111] [112])
 (.cond (.t 112) (.seq (.reg none [mi 2 2] [2])
 .ret)
 .skip))
 (.seq (.reg none [mi 2 0] [2])
 .ret)))))
def res_value_own : List IRes := [⟨2, true, none⟩]
theorem is_value_own : fnIs Go.Proofs.Tryz.prog 38 113 res_value_own ir_value_own = true := by kernel_rfl
theorem value_own_fn {v_0} {s : Store} {Q : List AV → Store → Prop}  : ok (value_own v_0) (fun r => Q [.int .i64 r] s) → FN Go.Proofs.Tryz.prog 38 [.agg [.int .i64 v_0.Kind, .int .i64 v_0.N, .str v_0.S.b, .sl false 4 v_0.L.length (flat v_0.L)]] s Q := by
 intro h
 refine FN.of (draw_ok mix) is_value_own rfl (Nat.le_of_ble_eq_true rfl) ?_
 revert h
 rw [ir_value_own, res_value_own, value_own]
 repeat' (first
  | with_reducible exact tt_to
  | with_reducible refine and_to ?_ ?_
  | with_reducible refine im_to ?_
  | with_reducible refine call_to (fun _ (h : value_plain v_0 = some _) => value_plain_fe h) (fun r3 => ?_)
  | with_reducible refine call_to (fun _ (h : num_Check v_0 = some _) => num_Check_fe h) (fun r8 => ?_)
  | with_reducible refine call_to_g rfl (fun _ (h : strings_IndexByte v_0.S 0 = some _) => (by refine FE_cast ?_ (strings_IndexByte_fe h); simp -implicitDefEqProofs only [go_sem, seval])) (fun _ => rfl) (fun r9 => ?_)
  | with_reducible refine call_to (fun _ (h : value_dict v_0 = some _) => value_dict_fe h) (fun r10 => ?_)
  | ((with_reducible refine join_to (live := [(1, false), (3, false), (5, false), (31, false)]) (fun (t7 : Bool) => ⟨[(1, .loc [.int .i64 v_0.Kind, .int .i64 v_0.N, .str v_0.S.b, .sl false 4 v_0.L.length (flat v_0.L)]), (3, .bool false), (5, .int .i64 v_0.Kind), (31, .bool t7)], [], s⟩) (fun J => ?_) ?_); rotate_left; rintro t7)
  | ((with_reducible refine join_toS (live := [(3, false)]) (fun (fine1 : Bool) => ⟨[(3, .bool fine1)], [], s⟩) (fun J => ?_) ?_); rotate_left; rintro fine1)
  | simp -implicitDefEqProofs only [go_sem, seval])
theorem value_own_fe {v_0} {s : Store} {r : Int}  (h : value_own v_0 = some r) : FE Go.Proofs.Tryz.prog 38 [.agg [.int .i64 v_0.Kind, .int .i64 v_0.N, .str v_0.S.b, .sl false 4 v_0.L.length (flat v_0.L)]] s [.int .i64 r] s := value_own_fn  ⟨r, h, rfl, rfl⟩
def value_Check_1 (x_0 : api_Value) (c_1 : Int) : Option (Bool × Int) :=
 bnd (value_own x_0) fun r1 =>
 some (r1 == 0, r1)
def ir_value_Check_1 : IC :=
 (.seq (.reg none [i1 2 (.boxL 4 (.t 0)),
 mkk 3 (.bool false)] [1, 2])
 (.seq (.reg none [lm 4 4 2,
 c1 5 38 4,
 st 1 1 5] [1])
 (.seq (.reg none [i1 6 (.loadR [.int .i64 0] false (.t 1)),
 bn 7 .eql 6 0,
 mv 3 7] [3])
 .ret)))
def res_value_Check_1 : List IRes := [⟨3, true, none⟩]
theorem is_value_Check_1 : fnIs Go.Proofs.Tryz.prog 37 8 res_value_Check_1 ir_value_Check_1 = true := by kernel_rfl
theorem value_Check_1_fn {x_0 c_1} {B1 : Nat} {s : Store} {Q : List AV → Store → Prop} (hB1 : s B1 = some (.cells [.int .i64 c_1])) : ok (value_Check_1 x_0 c_1) (fun r => Q [.bool r.1] (s.set B1 (.cells [.int .i64 r.2]))) → FN Go.Proofs.Tryz.prog 37 [.agg [.int .i64 x_0.Kind, .int .i64 x_0.N, .str x_0.S.b, .sl false 4 x_0.L.length (flat x_0.L)], .ref B1 0] s Q := by
 have hS : s = (s.set B1 (.cells [.int .i64 c_1])) := by simp only [set_eq' hB1]
 rw [hS]
 intro h
 refine FN.of (draw_ok mix) is_value_Check_1 rfl (Nat.le_of_ble_eq_true rfl) ?_
 revert h
 rw [ir_value_Check_1, res_value_Check_1, value_Check_1]
 repeat' (first
  | with_reducible refine call_to (fun _ (h : value_own x_0 = some _) => value_own_fe h) (fun r1 => ?_)
  | simp -implicitDefEqProofs only [go_sem, seval])
def value_walk : Nat → api_Value → Int → Option (Bool × Int)
 | 0, _, _ => none
 | fuel + 1, v_0, c1_0 =>
  bnd (value_Check_1 v_0 c1_0) fun r1 =>
  if !r1.1 then
   some (false, r1.2)
  else
   if (v_0.Kind != 6) && (v_0.Kind != 7) then
    some (true, r1.2)
   else
    jnS (
     bndS (
      iter (fun ((t5, o6) : Int × Int) =>
       if decide (t5 < (v_0.L.length : Int)) then
        need (0 ≤ t5 ∧ t5 < v_0.L.length) <|
        bnd (value_walk fuel (ix v_0.L t5) o6) fun r10 =>
        if !r10.1 then
         some (.inr (.inr (false, r10.2)))
        else
         some (.inl (w64 (t5 + 1), r10.2))
       else
        some (.inr (.inl o6))) (0, r1.2)) (fun (o7 : Int) =>
      some (.inl o7))
     (fun ((t8, o9) : Bool × Int) => some (.inr (t8, o9)))) (fun (o2 : Int) =>
     some (true, o2))
    (fun ((t3, o4) : Bool × Int) => some (t3, o4))
theorem fnok_37 : (fnOK Go.Proofs.Tryz.prog 37 = true) = True := eq_true (by kernel_rfl)
def ir_value_walk : IC :=
 (.seq (.reg none [i1 2 (.boxL 4 (.t 0)),
 mkk 4 (.bool false)] [1, 2])
 (.seq (.seq (.reg none [mv 7 1,
 lm 8 4 2,
 i1 9 (.callv (.t 7) [(.t 8)]),
 no 10 9] [1, 2, 10])
 (.cond (.t 10) (.seq (.reg none [mkk 4 (.bool false)] [4])
 .ret)
 .skip))
 (.seq (.seq (.reg none [fa 11 0 2,
 ld 12 1 11,
 bn 13 .neq 12 6,
 mv 14 13,
 fg 15 14 true 0 2,
 lg 16 14 true 1 15,
 i1g 17 14 true (.bin .neq (.t 16) (.c (.int .i64 7))),
 pf 18 14 17] [1, 2, 18])
 (.cond (.t 18) (.seq (.reg none [mkk 4 (.bool true)] [4])
 .ret)
 .skip))
 (.join [] (.seq (.reg none [fa 19 3 2,
 ld 20 1 19,
 le 21 0 20,
 mi 22 0] [1, 20, 21, 22])
 (.block 0 (.loop [(1, false), (20, true), (21, false), (22, false)] (.seq (.reg none [bt 23 .lss 22 21] [1, 20, 21, 22, 23])
 (.seq (.cond (.t 23) .skip
 (.exit 0))
 (.seq (.block 1 (.seq (.reg none [ia 24 [.int .i64 0, .int .i64 0, .str [], .sl false 4 0 []] 20 22,
 lm 25 4 24,
 i1 6 (.allocL [.int .i64 0, .int .i64 0, .str [], .sl true 4 0 []]),
 st 4 6 25] [1, 6, 20, 21, 22])
 (.seq (.reg none [lm 26 4 6,
 mv 27 1,
 c2 28 36 26 27,
 no 29 28] [1, 20, 21, 22, 29])
 (.cond (.t 29) (.seq (.reg none [mkk 4 (.bool false)] [4])
 .ret)
 .skip))))
 (.reg none [bn 30 .add 22 1,
 mv 22 30] [1, 20, 21, 22])))))))
 (.seq (.reg none [mkk 4 (.bool true)] [4])
 .ret)))))
def res_value_walk : List IRes := [⟨4, true, none⟩]
theorem is_value_walk : fnIs Go.Proofs.Tryz.prog 36 31 res_value_walk ir_value_walk = true := by kernel_rfl
theorem value_walk_fn {fuel : Nat} : ∀ {v_0 : api_Value} {c1_0 : Int} {B1_0 : Nat} {s : Store} {Q : List AV → Store → Prop} (hB1_0 : s B1_0 = some (.cells [.int .i64 c1_0])), ok (value_walk fuel v_0 c1_0) (fun r => Q [.bool r.1] (s.set B1_0 (.cells [.int .i64 r.2]))) → FN Go.Proofs.Tryz.prog 36 [.agg [.int .i64 v_0.Kind, .int .i64 v_0.N, .str v_0.S.b, .sl false 4 v_0.L.length (flat v_0.L)], .fn 37 [] [.ref B1_0 0]] s Q := by
 induction fuel with
 | zero => intros; rename_i h; rw [value_walk] at h; exact absurd h (by rw [ok_none]; exact fun h => h)
 | succ fuel ih =>
 intro v_0 c1_0 B1_0 s Q hB1_0
 have hS : s = (s.set B1_0 (.cells [.int .i64 c1_0])) := by simp only [set_eq' hB1_0]
 rw [hS]
 intro h
 refine FN.of (draw_ok mix) is_value_walk rfl (Nat.le_of_ble_eq_true rfl) ?_
 revert h
 rw [ir_value_walk, res_value_walk, value_walk]
 repeat' (first
  | with_reducible exact tt_to
  | with_reducible refine and_to ?_ ?_
  | with_reducible refine im_to ?_
  | with_reducible refine fun hh => value_Check_1_fn (B1 := B1_0) (by simp -implicitDefEqProofs only [go_sem, seval, fnok_37] <;> simp only [encM_nil])   (ok_mono (show ok (value_Check_1 v_0 c1_0) _ from hh) fun r1 => ?_)
  | with_reducible refine fun hh => ih (B1_0 := B1_0) (by simp -implicitDefEqProofs only [go_sem, seval, fnok_37] <;> simp only [encM_nil])  (ok_mono (show ok (value_walk fuel (ix v_0.L t5) o6) _ from hh) fun r10 => ?_)
  | ((with_reducible refine iter_to (fun ((t5, o6) : Int × Int) => ⟨[(1, .fn 37 [] [.ref B1_0 0]), (20, .sl false 4 v_0.L.length (flat v_0.L)), (21, .int .i64 (v_0.L.length : Int)), (22, .int .i64 t5)], [], (s.set B1_0 (.cells [.int .i64 o6]))⟩) ?_ ?_); (first | exact rfl | simp -implicitDefEqProofs only [go_sem, seval, fnok_37]); rintro J ⟨t5, o6⟩)
  | ((with_reducible refine join_toS (fun (o2 : Int) => ⟨[], [], (s.set B1_0 (.cells [.int .i64 o2]))⟩) (fun J => ?_) ?_); rotate_left; rintro o2)
  | simp -implicitDefEqProofs only [go_sem, seval, fnok_37])
def value_Check (v_0 : api_Value) : Option (Int) :=
 bnd (value_Depth bigN v_0) fun r1 =>
 if decide (r1 > 64) then
  some 15
 else
  bnd (value_walk bigN v_0 0) fun r2 =>
  some r2.2
def ir_value_Check : IC :=
 (.seq (.reg none [i1 1 (.boxL 4 (.t 0)),
 mi 2 0] [1])
 (.seq (.seq (.reg none [lm 4 4 1,
 c1 5 35 4,
 bn 6 .gtr 5 64] [1, 6])
 (.cond (.t 6) (.seq (.reg none [mi 2 15] [2])
 .ret)
 .skip))
 (.seq (.reg none [i1 3 (.allocS [.int .i64 0]),
 i0 (.store 1 (.t 3) (.c (.int .i64 0)))] [1, 3])
 (.seq (.reg none [lm 7 4 1,
 i1 8 (.makeFn 37 [] [(.t 3)]),
 c2 9 36 7 8] [3])
 (.seq (.reg none [i1 10 (.loadR [.int .i64 0] false (.t 3)),
 mv 2 10] [2])
 .ret)))))
def res_value_Check : List IRes := [⟨2, true, none⟩]
theorem is_value_Check : fnIs Go.Proofs.Tryz.prog 18 11 res_value_Check ir_value_Check = true := by kernel_rfl
theorem value_Check_fn {v_0} {s : Store} {Q : List AV → Store → Prop}  : ok (value_Check v_0) (fun r => Q [.int .i64 r] s) → FN Go.Proofs.Tryz.prog 18 [.agg [.int .i64 v_0.Kind, .int .i64 v_0.N, .str v_0.S.b, .sl false 4 v_0.L.length (flat v_0.L)]] s Q := by
 intro h
 refine FN.forget ?_
 refine FN.of (draw_ok mix) is_value_Check rfl (Nat.le_of_ble_eq_true rfl) ?_
 revert h
 rw [ir_value_Check, res_value_Check, value_Check]
 repeat' (first
  | with_reducible refine and_to ?_ ?_
  | with_reducible refine im_to ?_
  | with_reducible refine call_to (fun _ (h : value_Depth bigN v_0 = some _) => value_Depth_fe h) (fun r1 => ?_)
  | with_reducible refine fun hh => value_walk_fn (B1_0 := N1) (by simp -implicitDefEqProofs only [go_sem, seval] <;> simp only [encM_nil])   (ok_mono (show ok (value_walk bigN v_0 0) _ from hh) fun r2 => ?_)
  | ((fail_if_success (have _x := sN1)); with_reducible intro hh N1 hN1; (try simp only [set_none] at hN1); have sN1 := hN1; revert hh)
  | with_reducible exact fun hh => ⟨_, SubS.set (SubS.refl _) (by simp [Store.set, sN1]), hh⟩
  | with_reducible exact fun hh => ⟨_, SubS.refl _, hh⟩
  | simp -implicitDefEqProofs only [go_sem, seval])
theorem value_Check_fe {v_0} {s : Store} {r : Int}  (h : value_Check v_0 = some r) : FE Go.Proofs.Tryz.prog 18 [.agg [.int .i64 v_0.Kind, .int .i64 v_0.N, .str v_0.S.b, .sl false 4 v_0.L.length (flat v_0.L)]] s [.int .i64 r] s := value_Check_fn  ⟨r, h, rfl, rfl⟩
def value_Get (v_0 : api_Value) (key_1 : Str) : Option (api_Value × Bool) :=
 bnd (value_find v_0 key_1) fun r1 =>
 if decide (r1 < 0) then
  some ((api_Value.mk 0 0 (Str.mk []) ([] : List api_Value)), false)
 else
  if (w64 (r1 + 1)) == (v_0.L.length : Int) then
   some ((api_Value.mk 0 0 (Str.mk []) ([] : List api_Value)), true)
  else
   need (0 ≤ w64 (r1 + 1) ∧ w64 (r1 + 1) < v_0.L.length) <|
   some (ix v_0.L (w64 (r1 + 1)), true)
def ir_value_Get : IC :=
 (.seq (.reg none [i1 2 (.boxL 4 (.t 0)),
 i1 4 (.allocL [.int .i64 0, .int .i64 0, .str [], .sl true 4 0 []]),
 mkk 5 (.bool false)] [1, 2, 4])
 (.seq (.reg none [lm 7 4 2,
 mv 8 1,
 c2 9 52 7 8,
 mv 6 9] [2, 4, 6])
 (.seq (.block 0 (.seq (.reg none [mv 11 6,
 bn 12 .lss 11 0,
 mv 10 12] [2, 4, 6, 10])
 (.cond (.t 10) (.seq (.reg none [i1 13 (.build [.int .i64 0, .int .i64 0, .str [], .sl true 4 0 []] []),
 st 4 4 13,
 mkk 5 (.bool false)] [4, 5])
 .ret)
 (.seq (.reg none [mv 15 6,
 bn 16 .add 15 1,
 fa 17 3 2,
 ld 18 1 17,
 le 19 0 18,
 bt 20 .eql 16 19,
 mv 14 20] [2, 4, 6, 14])
 (.cond (.t 14) (.seq (.reg none [i1 21 (.build [.int .i64 0, .int .i64 0, .str [], .sl true 4 0 []] []),
 st 4 4 21,
 mkk 5 (.bool true)] [4, 5])
 .ret)
 .skip)))))
 (.seq (.reg none [fa 22 3 2,
 ld 23 1 22,
 mv 24 6,
 bn 25 .add 24 1,
 ia 26 [.int .i64 0, .int .i64 0, .str [], .sl false 4 0 []] 23 25,
 lm 27 4 26,
 st 4 4 27,
 mkk 5 (.bool true)] [4, 5])
 .ret))))
def res_value_Get : List IRes := [⟨4, false, some (4, true)⟩, ⟨5, true, none⟩]
theorem is_value_Get : fnIs Go.Proofs.Tryz.prog 39 28 res_value_Get ir_value_Get = true := by kernel_rfl
theorem value_Get_fn {v_0 key_1} {s : Store} {Q : List AV → Store → Prop}  : ok (value_Get v_0 key_1) (fun r => Q [.agg [.int .i64 r.1.Kind, .int .i64 r.1.N, .str r.1.S.b, .sl false 4 r.1.L.length (flat r.1.L)], .bool r.2] s) → FN Go.Proofs.Tryz.prog 39 [.agg [.int .i64 v_0.Kind, .int .i64 v_0.N, .str v_0.S.b, .sl false 4 v_0.L.length (flat v_0.L)], .str key_1.b] s Q := by
 intro h
 refine FN.of (draw_ok mix) is_value_Get rfl (Nat.le_of_ble_eq_true rfl) ?_
 revert h
 rw [ir_value_Get, res_value_Get, value_Get]
 repeat' (first
  | with_reducible refine call_to (fun _ (h : value_find v_0 key_1 = some _) => value_find_fe h) (fun r1 => ?_)
  | simp -implicitDefEqProofs only [go_sem, seval])
theorem value_Get_fe {v_0 key_1} {s : Store} {r : api_Value × Bool}  (h : value_Get v_0 key_1 = some r) : FE Go.Proofs.Tryz.prog 39 [.agg [.int .i64 v_0.Kind, .int .i64 v_0.N, .str v_0.S.b, .sl false 4 v_0.L.length (flat v_0.L)], .str key_1.b] s [.agg [.int .i64 r.1.Kind, .int .i64 r.1.N, .str r.1.S.b, .sl false 4 r.1.L.length (flat r.1.L)], .bool r.2] s := value_Get_fn  ⟨r, h, rfl, rfl⟩
def frame_has (v_0 : api_Value) (name_1 : Str) : Option (Bool) :=
 bnd (value_Get v_0 name_1) fun r1 =>
 some r1.2
def ir_frame_has : IC :=
 (.seq (.reg none [i1 2 (.boxL 4 (.t 0)),
 mkk 4 (.bool false)] [1, 2])
 (.seq (.reg none [lm 8 4 2,
 mv 9 1,
 c2 10 39 8 9,
 i1 7 (.movT (.t 10)),
 ex 11 7 0,
 ex 12 7 1,
 i1 5 (.allocL [.int .i64 0, .int .i64 0, .str [], .sl true 4 0 []]),
 st 4 5 11,
 mv 6 12] [6])
 (.seq (.reg none [mv 13 6,
 mv 4 13] [4])
 .ret)))
def res_frame_has : List IRes := [⟨4, true, none⟩]
theorem is_frame_has : fnIs Go.Proofs.Tryz.prog 19 14 res_frame_has ir_frame_has = true := by kernel_rfl
theorem frame_has_fn {v_0 name_1} {s : Store} {Q : List AV → Store → Prop}  : ok (frame_has v_0 name_1) (fun r => Q [.bool r] s) → FN Go.Proofs.Tryz.prog 19 [.agg [.int .i64 v_0.Kind, .int .i64 v_0.N, .str v_0.S.b, .sl false 4 v_0.L.length (flat v_0.L)], .str name_1.b] s Q := by
 intro h
 refine FN.of (draw_ok mix) is_frame_has rfl (Nat.le_of_ble_eq_true rfl) ?_
 revert h
 rw [ir_frame_has, res_frame_has, frame_has]
 repeat' (first
  | with_reducible refine call_to (fun _ (h : value_Get v_0 name_1 = some _) => value_Get_fe h) (fun r1 => ?_)
  | simp -implicitDefEqProofs only [go_sem, seval])
theorem frame_has_fe {v_0 name_1} {s : Store} {r : Bool}  (h : frame_has v_0 name_1 = some r) : FE Go.Proofs.Tryz.prog 19 [.agg [.int .i64 v_0.Kind, .int .i64 v_0.N, .str v_0.S.b, .sl false 4 v_0.L.length (flat v_0.L)], .str name_1.b] s [.bool r] s := frame_has_fn  ⟨r, h, rfl, rfl⟩
def frame_Check (o_0 : api_Object) : Option (Int) :=
 bnd (value_Check o_0.V) fun r1 =>
 if r1 != 0 then
  some r1
 else
  if (!o_0.Stream) && (!(o_0.Data.b == (Str.mk []).b)) then
   some 2
  else
   bnd (whenB (o_0.Stream && (!(o_0.V.Kind != 7))) false (frame_has o_0.V (Str.mk [76, 101, 110, 103, 116, 104]))) fun r2 =>
   bnd (whenB (o_0.Stream && (!((o_0.V.Kind != 7) || r2))) false (frame_has o_0.V (Str.mk [70, 105, 108, 116, 101, 114]))) fun r3 =>
   bnd (whenB (o_0.Stream && (!(((o_0.V.Kind != 7) || r2) || r3))) false (frame_has o_0.V (Str.mk [68, 101, 99, 111, 100, 101, 80, 97, 114, 109, 115]))) fun r4 =>
   if o_0.Stream && ((((o_0.V.Kind != 7) || r2) || r3) || r4) then
    some 2
   else
    if decide ((o_0.Data.b.length : Int) > 16777216) then
     some 3
    else
     some 0
def ir_frame_Check : IC :=
 (.seq (.reg none [i1 1 (.boxL 6 (.t 0)),
 mi 2 0] [1])
 (.seq (.reg none [fa 4 0 1,
 lm 5 4 4,
 c1 6 18 5,
 mv 3 6] [1, 3])
 (.seq (.block 0 (.seq (.reg none [mv 8 3,
 bn 9 .neq 8 0,
 mv 7 9] [1, 3, 7])
 (.cond (.t 7) (.seq (.reg none [mv 10 3,
 mv 2 10] [2])
 .ret)
 (.seq (.reg none [fa 12 4 1,
 ld 13 1 12,
 no 14 13,
 mv 15 14,
 fg 16 15 true 5 1,
 lg 17 15 true 1 16,
 i1g 18 15 true (.bin .neq (.t 17) (.c (.str []))),
 pf 19 15 18,
 mv 11 19] [1, 11])
 (.cond (.t 11) (.seq (.reg none [mi 2 2] [2])
 .ret)
 (.seq (.reg (some 21) [fa 21 4 1,
 ld 22 1 21,
 mv 23 22,
 fg 24 23 true 0 1,
 fg 25 23 true 0 24,
 lg 26 23 true 1 25,
 i1g 27 23 true (.bin .neq (.t 26) (.c (.int .i64 7))),
 mvg 28 27 23 true,
 fg 29 28 false 0 1,
 i1g 30 28 false (.load 4 true (.t 29)),
 i1g 31 28 false (.call 19 [(.t 30), (.c (.str [76, 101, 110, 103, 116, 104]))]),
 i1g 32 23 true (.pick (.t 28) (.c (.bool true)) (.t 31)),
 mvg 33 32 23 true,
 fg 34 33 false 0 1,
 i1g 35 33 false (.load 4 true (.t 34)),
 i1g 36 33 false (.call 19 [(.t 35), (.c (.str [70, 105, 108, 116, 101, 114]))]),
 i1g 37 23 true (.pick (.t 33) (.c (.bool true)) (.t 36)),
 mvg 38 37 23 true,
 fg 39 38 false 0 1,
 i1g 40 38 false (.load 4 true (.t 39)),
 i1g 41 38 false (.call 19 [(.t 40), (.c (.str [68, 101, 99, 111, 100, 101, 80, 97, 114, 109, 115]))]),
 i1g 42 23 true (.pick (.t 38) (.c (.bool true)) (.t 41)),
 pf 43 23 42,
 mv 20 43] [1, 20])
 (.cond (.t 20) (.seq (.reg none [mi 2 2] [2])
 .ret)
 (.seq (.reg none [fa 45 5 1,
 ld 46 1 45,
 le 47 1 46,
 bn 48 .gtr 47 16777216,
 mv 44 48] [44])
 (.cond (.t 44) (.seq (.reg none [mi 2 3] [2])
 .ret)
 .skip)))))))))
 (.seq (.reg none [mi 2 0] [2])
 .ret))))
def res_frame_Check : List IRes := [⟨2, true, none⟩]
theorem is_frame_Check : fnIs Go.Proofs.Tryz.prog 6 49 res_frame_Check ir_frame_Check = true := by kernel_rfl
theorem frame_Check_fn {o_0} {s : Store} {Q : List AV → Store → Prop}  : ok (frame_Check o_0) (fun r => Q [.int .i64 r] s) → FN Go.Proofs.Tryz.prog 6 [.agg [.int .i64 o_0.V.Kind, .int .i64 o_0.V.N, .str o_0.V.S.b, .sl false 4 o_0.V.L.length (flat o_0.V.L), .bool o_0.Stream, .str o_0.Data.b]] s Q := by
 intro h
 refine FN.of (draw_ok mix) is_frame_Check rfl (Nat.le_of_ble_eq_true rfl) ?_
 revert h
 rw [ir_frame_Check, res_frame_Check, frame_Check]
 repeat' (first
  | with_reducible exact tt_to
  | with_reducible refine and_to ?_ ?_
  | with_reducible refine im_to ?_
  | with_reducible refine call_to (fun _ (h : value_Check o_0.V = some _) => value_Check_fe h) (fun r1 => ?_)
  | with_reducible refine call_to_g rfl (fun _ (h : frame_has o_0.V (Str.mk [76, 101, 110, 103, 116, 104]) = some _) => frame_has_fe h) (fun _ => rfl) (fun r2 => ?_)
  | with_reducible refine call_to_g rfl (fun _ (h : frame_has o_0.V (Str.mk [70, 105, 108, 116, 101, 114]) = some _) => frame_has_fe h) (fun _ => rfl) (fun r3 => ?_)
  | with_reducible refine call_to_g rfl (fun _ (h : frame_has o_0.V (Str.mk [68, 101, 99, 111, 100, 101, 80, 97, 114, 109, 115]) = some _) => frame_has_fe h) (fun _ => rfl) (fun r4 => ?_)
  | simp -implicitDefEqProofs only [go_sem, seval])
theorem frame_Check_fe {o_0} {s : Store} {r : Int}  (h : frame_Check o_0 = some r) : FE Go.Proofs.Tryz.prog 6 [.agg [.int .i64 o_0.V.Kind, .int .i64 o_0.V.N, .str o_0.V.S.b, .sl false 4 o_0.V.L.length (flat o_0.V.L), .bool o_0.Stream, .str o_0.Data.b]] s [.int .i64 r] s := frame_Check_fn  ⟨r, h, rfl, rfl⟩
def cmp_isNaNint (x_0 : Int) : Option (Bool) :=
 some (x_0 != x_0)
def ir_cmp_isNaNint : IC :=
 (.seq (.reg none [mkk 2 (.bool false)] [0])
 (.seq (.reg none [mv 3 0,
 mv 4 0,
 bt 5 .neq 3 4,
 mv 2 5] [2])
 .ret))
def res_cmp_isNaNint : List IRes := [⟨2, true, none⟩]
theorem is_cmp_isNaNint : fnIs Go.Proofs.Tryz.prog 110 6 res_cmp_isNaNint ir_cmp_isNaNint = true := by kernel_rfl
theorem cmp_isNaNint_fn {x_0} {s : Store} {Q : List AV → Store → Prop}  : ok (cmp_isNaNint x_0) (fun r => Q [.bool r] s) → FN Go.Proofs.Tryz.prog 110 [.int .i64 x_0] s Q := by
 intro h
 refine FN.of (draw_ok mix) is_cmp_isNaNint rfl (Nat.le_of_ble_eq_true rfl) ?_
 revert h
 rw [ir_cmp_isNaNint, res_cmp_isNaNint, cmp_isNaNint]
 repeat' (first
  | simp -implicitDefEqProofs only [go_sem, seval])
theorem cmp_isNaNint_fe {x_0} {s : Store} {r : Bool}  (h : cmp_isNaNint x_0 = some r) : FE Go.Proofs.Tryz.prog 110 [.int .i64 x_0] s [.bool r] s := cmp_isNaNint_fn  ⟨r, h, rfl, rfl⟩
def cmp_Compareint (x_0 : Int) (y_1 : Int) : Option (Int) :=
 bnd (cmp_isNaNint x_0) fun r1 =>
 bnd (cmp_isNaNint y_1) fun r2 =>
 if r1 then
  if r2 then
   some 0
  else
   some (-1)
 else
  if r2 then
   some 1
  else
   if decide (x_0 < y_1) then
    some (-1)
   else
    if decide (x_0 > y_1) then
     some 1
    else
     some 0
def ir_cmp_Compareint : IC :=
 (.seq (.reg none [mi 4 0] [0, 1])
 (.seq (.reg none [mv 7 0,
 c1 8 110 7,
 mv 5 8] [0, 1, 5])
 (.seq (.reg none [mv 9 1,
 c1 10 110 9,
 mv 6 10] [0, 1, 5, 6])
 (.seq (.seq (.reg none [mv 11 5] [0, 1, 6, 11])
 (.cond (.t 11) (.seq (.seq (.reg none [mv 12 6] [12])
 (.cond (.t 12) (.seq (.reg none [mi 4 0] [4])
 .ret)
 .skip))
 (.seq (.reg none [mi 4 (-1)] [4])
 .ret))
 .skip))
 (.seq (.seq (.reg none [mv 13 6] [0, 1, 13])
 (.cond (.t 13) (.seq (.reg none [mi 4 1] [4])
 .ret)
 .skip))
 (.seq (.seq (.reg none [mv 14 0,
 mv 15 1,
 bt 16 .lss 14 15] [0, 1, 16])
 (.cond (.t 16) (.seq (.reg none [mi 4 (-1)] [4])
 .ret)
 .skip))
 (.seq (.seq (.reg none [mv 17 0,
 mv 18 1,
 bt 19 .gtr 17 18] [19])
 (.cond (.t 19) (.seq (.reg none [mi 4 1] [4])
 .ret)
 .skip))
 (.seq (.reg none [mi 4 0] [4])
 .ret))))))))
def res_cmp_Compareint : List IRes := [⟨4, true, none⟩]
theorem is_cmp_Compareint : fnIs Go.Proofs.Tryz.prog 72 20 res_cmp_Compareint ir_cmp_Compareint = true := by kernel_rfl
theorem cmp_Compareint_fn {x_0 y_1} {s : Store} {Q : List AV → Store → Prop}  : ok (cmp_Compareint x_0 y_1) (fun r => Q [.int .i64 r] s) → FN Go.Proofs.Tryz.prog 72 [.int .i64 x_0, .int .i64 y_1] s Q := by
 intro h
 refine FN.of (draw_ok mix) is_cmp_Compareint rfl (Nat.le_of_ble_eq_true rfl) ?_
 revert h
 rw [ir_cmp_Compareint, res_cmp_Compareint, cmp_Compareint]
 repeat' (first
  | with_reducible refine call_to (fun _ (h : cmp_isNaNint x_0 = some _) => cmp_isNaNint_fe h) (fun r1 => ?_)
  | with_reducible refine call_to (fun _ (h : cmp_isNaNint y_1 = some _) => cmp_isNaNint_fe h) (fun r2 => ?_)
  | simp -implicitDefEqProofs only [go_sem, seval])
theorem cmp_Compareint_fe {x_0 y_1} {s : Store} {r : Int}  (h : cmp_Compareint x_0 y_1 = some r) : FE Go.Proofs.Tryz.prog 72 [.int .i64 x_0, .int .i64 y_1] s [.int .i64 r] s := cmp_Compareint_fn  ⟨r, h, rfl, rfl⟩
open Go.RowKit
theorem cmpString_calls (a b : ByteArray) (w : World) : Calls Go.Proofs.Tryz.prog 111 #[.string a, .string b] w fun e w' => e = .returned (.int .i64 (Lib.compareBytes a.data.toList b.data.toList)) ∧ w' = w := by
 have mixed := mix
 have t3 : Go.Proofs.Tryz.prog.underlying 3 = some (.int .i64) := by kernel_rfl
 have u3 := run_underlying t3
 have t9 : Go.Proofs.Tryz.prog.underlying 9 = some .string := by kernel_rfl
 have u9 := run_underlying t9
 go_enter Go.Proofs.Tryz.func111, (show Go.Proofs.Tryz.f111.ntmps = 8 from rfl)
 go_wp2
 rw [run_callFunc_extern Go.Proofs.Tryz.func141 (by kernel_rfl) (by kernel_rfl) (by kernel_rfl) (e := Extern.BytealgCompare.compare) (by kernel_rfl), Lib.run_compareString]
 simp only [Result.andThen]
 rw [Oper.upon_value]
 go_wp2
 go_ret
 exact ⟨rfl, rfl⟩
def cmpString (a b : Str) : Option Int := some (Lib.compareBytes a.b b.b)
theorem cmpString_fn {a b : Str} {s : Store} {Q : List AV → Store → Prop} (h : ok (cmpString a b) fun r => Q [.int .i64 r] s) : FN Go.Proofs.Tryz.prog 111 [.str a.b, .str b.b] s Q := by
 unfold cmpString at h
 rw [ok_some] at h
 intro G w vs h1 h2 h3 h4
 obtain ⟨hl, hr⟩ := h4
 have e0 : ∃ v0 v1, vs = #[v0, v1] ∧ VR w G.R (.str a.b) v0 ∧ VR w G.R (.str b.b) v1 := by
  obtain ⟨l⟩ := vs
  match l, hl with
  | [v0, v1], _ => exact ⟨v0, v1, rfl, hr 0 _ _ rfl rfl, hr 1 _ _ rfl rfl⟩
  | [], hl => simp at hl
  | [_], hl => simp at hl
  | _ :: _ :: _ :: _, hl => simp at hl
 obtain ⟨v0, v1, rfl, k0, k1⟩ := e0
 rw [VR.inv_str k0, VR.inv_str k1]
 refine (cmpString_calls _ _ w).mono fun e w' ⟨he, hw⟩ => ?_
 subst hw
 exact ⟨_, _, s, G, he, h, h1, h3, ⟨.int _ _, trivial⟩, Pres.refl G w'⟩
theorem cmpString_fe {a b : Str} {s : Store} {r : Int} (h : cmpString a b = some r) : FE Go.Proofs.Tryz.prog 111 [.str a.b, .str b.b] s [.int .i64 r] s := cmpString_fn ⟨r, h, rfl, rfl⟩
def strings_Compare (a_0 : Str) (b_1 : Str) : Option (Int) :=
 bnd (cmpString a_0 b_1) fun r1 =>
 some r1
def ir_strings_Compare : IC :=
 (.seq (.reg none [mi 4 0] [0, 1])
 (.seq (.reg none [mv 5 0,
 mv 6 1,
 c2 7 111 5 6,
 mv 4 7] [4])
 .ret))
def res_strings_Compare : List IRes := [⟨4, true, none⟩]
theorem is_strings_Compare : fnIs Go.Proofs.Tryz.prog 73 8 res_strings_Compare ir_strings_Compare = true := by kernel_rfl
theorem strings_Compare_fn {a_0 b_1} {s : Store} {Q : List AV → Store → Prop}  : ok (strings_Compare a_0 b_1) (fun r => Q [.int .i64 r] s) → FN Go.Proofs.Tryz.prog 73 [.str a_0.b, .str b_1.b] s Q := by
 intro h
 refine FN.of (draw_ok mix) is_strings_Compare rfl (Nat.le_of_ble_eq_true rfl) ?_
 revert h
 rw [ir_strings_Compare, res_strings_Compare, strings_Compare]
 repeat' (first
  | with_reducible refine call_to (fun _ (h : cmpString a_0 b_1 = some _) => cmpString_fe h) (fun r1 => ?_)
  | simp -implicitDefEqProofs only [go_sem, seval])
theorem strings_Compare_fe {a_0 b_1} {s : Store} {r : Int}  (h : strings_Compare a_0 b_1 = some r) : FE Go.Proofs.Tryz.prog 73 [.str a_0.b, .str b_1.b] s [.int .i64 r] s := strings_Compare_fn  ⟨r, h, rfl, rfl⟩
def cmp_Orint (vals_0 : (List Int)) : Option (Int) :=
 jnS (
  bndS (
   iter (fun (t3 : Int) =>
    if decide (t3 < (vals_0.length : Int)) then
     need (0 ≤ t3 ∧ t3 < vals_0.length) <|
     if (ix vals_0 t3) != 0 then
      some (.inr (.inr (ix vals_0 t3)))
     else
      some (.inl (w64 (t3 + 1)))
    else
     some (.inr (.inl ()))) 0) (fun (_ : Unit) =>
   some (.inl ()))
  (fun (t5 : Int) => some (.inr t5))) (fun (_ : Unit) =>
  some 0)
 (fun (t2 : Int) => some t2)
def ir_cmp_Orint : IC :=
 (.seq (.reg none [mi 2 0] [0])
 (.seq (.reg none [mi 3 0] [0, 3])
 (.join [(3, false)] (.seq (.reg none [mt 6 0,
 le 7 0 6,
 mi 8 0] [3, 6, 7, 8])
 (.block 0 (.loop [(3, false), (6, true), (7, false), (8, false)] (.seq (.reg none [bt 9 .lss 8 7] [3, 6, 7, 8, 9])
 (.seq (.cond (.t 9) .skip
 (.exit 0))
 (.seq (.block 1 (.seq (.reg none [ia 10 [.int .i64 0] 6 8,
 ld 11 1 10,
 mv 5 11] [3, 5, 6, 7, 8])
 (.seq (.reg none [mv 12 5,
 mv 13 3,
 bt 14 .neq 12 13] [3, 5, 6, 7, 8, 14])
 (.cond (.t 14) (.seq (.reg none [mv 15 5,
 mv 2 15] [2])
 .ret)
 .skip))))
 (.reg none [bn 16 .add 8 1,
 mv 8 16] [3, 6, 7, 8])))))))
 (.seq (.reg none [mv 17 3,
 mv 2 17] [2])
 .ret))))
def res_cmp_Orint : List IRes := [⟨2, true, none⟩]
theorem is_cmp_Orint : fnIs Go.Proofs.Tryz.prog 71 18 res_cmp_Orint ir_cmp_Orint = true := by kernel_rfl
theorem cmp_Orint_fn {vals_0} {s : Store} {Q : List AV → Store → Prop}  : ok (cmp_Orint vals_0) (fun r => Q [.int .i64 r] s) → FN Go.Proofs.Tryz.prog 71 [.sl false 1 vals_0.length (flat vals_0)] s Q := by
 intro h
 refine FN.of (draw_ok mix) is_cmp_Orint rfl (Nat.le_of_ble_eq_true rfl) ?_
 revert h
 rw [ir_cmp_Orint, res_cmp_Orint, cmp_Orint]
 repeat' (first
  | ((with_reducible refine iter_to (fun (t3 : Int) => ⟨[(3, .int .i64 0), (6, .sl false 1 vals_0.length (flat vals_0)), (7, .int .i64 (vals_0.length : Int)), (8, .int .i64 t3)], [], s⟩) ?_ ?_); (first | exact rfl | simp -implicitDefEqProofs only [go_sem, seval]); rintro J t3)
  | ((with_reducible refine join_toS (fun (_ : Unit) => ⟨[(3, .int .i64 0)], [], s⟩) (fun J => ?_) ?_); rotate_left; rintro _)
  | simp -implicitDefEqProofs only [go_sem, seval])
theorem cmp_Orint_fe {vals_0} {s : Store} {r : Int}  (h : cmp_Orint vals_0 = some r) : FE Go.Proofs.Tryz.prog 71 [.sl false 1 vals_0.length (flat vals_0)] s [.int .i64 r] s := cmp_Orint_fn  ⟨r, h, rfl, rfl⟩
mutual
def value_Compare : Nat → api_Value → api_Value → Option (Int)
 | 0, _, _ => none
 | fuel + 1, a_0, b_1 =>
  bnd (cmp_Compareint a_0.Kind b_1.Kind) fun r1 =>
  bnd (cmp_Compareint a_0.N b_1.N) fun r2 =>
  bnd (strings_Compare a_0.S b_1.S) fun r3 =>
  bnd (cmp_Orint [r1, r2, r3]) fun r4 =>
  if r4 != 0 then
   some r4
  else
   bnd (slices_CompareFuncapi_Value_api_Value_api_Value_api_Value fuel a_0.L b_1.L) fun r5 =>
   some r5
def slices_CompareFuncapi_Value_api_Value_api_Value_api_Value : Nat → (List api_Value) → (List api_Value) → Option (Int)
 | 0, _, _ => none
 | fuel + 1, s1_0, s2_1 =>
  jnS (
   bndS (
    iter (fun (t4 : Int) =>
     if decide (t4 < (s1_0.length : Int)) then
      need (0 ≤ t4 ∧ t4 < s1_0.length) <|
      if decide (t4 ≥ (s2_1.length : Int)) then
       some (.inr (.inr (1 : Int)))
      else
       need (0 ≤ t4 ∧ t4 < s2_1.length) <|
       bnd (value_Compare fuel (ix s1_0 t4) (ix s2_1 t4)) fun r8 =>
       if r8 != 0 then
        some (.inr (.inr r8))
       else
        some (.inl (w64 (t4 + 1)))
     else
      some (.inr (.inl ()))) 0) (fun (_ : Unit) =>
    some (.inl ()))
   (fun (t7 : Int) => some (.inr t7))) (fun (_ : Unit) =>
   if decide ((s1_0.length : Int) < (s2_1.length : Int)) then
    some (-1)
   else
    some 0)
  (fun (t3 : Int) => some t3)
end
def ir_value_Compare : IC :=
 (.seq (.reg none [i1 2 (.boxL 4 (.t 0)),
 i1 3 (.boxL 4 (.t 1)),
 mi 4 0] [2, 3])
 (.seq (.seq (.reg (some 18) [fa 6 0 2,
 ld 7 1 6,
 fa 8 0 3,
 ld 9 1 8,
 c2 10 72 7 9,
 fa 11 1 2,
 ld 12 1 11,
 fa 13 1 3,
 ld 14 1 13,
 c2 15 72 12 14,
 fa 16 2 2,
 ld 17 1 16,
 fa 18 2 3,
 ld 19 1 18,
 c2 20 73 17 19,
 i1 21 (.buildSl 1 3 [.int .i64 0, .int .i64 0, .int .i64 0] [(0, 1, (.t 10)), (1, 1, (.t 15)), (2, 1, (.t 20))]),
 c1 22 71 21,
 mv 5 22] [2, 3, 5])
 (.seq (.reg none [mv 23 5,
 bn 24 .neq 23 0] [2, 3, 5, 24])
 (.cond (.t 24) (.seq (.reg none [mv 25 5,
 mv 4 25] [4])
 .ret)
 .skip)))
 (.seq (.reg none [fa 26 3 2,
 ld 27 1 26,
 fa 28 3 3,
 ld 29 1 28,
 i1 30 (.call 74 [(.t 27), (.t 29), (.c (.fn 42 [] []))]),
 mv 4 30] [4])
 .ret)))
def res_value_Compare : List IRes := [⟨4, true, none⟩]
theorem is_value_Compare : fnIs Go.Proofs.Tryz.prog 42 31 res_value_Compare ir_value_Compare = true := by kernel_rfl
theorem fnok_42 : (fnOK Go.Proofs.Tryz.prog 42 = true) = True := eq_true (by kernel_rfl)
def ir_slices_CompareFuncapi_Value_api_Value_api_Value_api_Value : IC :=
 (.seq (.reg none [mi 6 0] [0, 1, 2])
 (.join [(0, true), (1, true)] (.seq (.reg none [mv 11 0,
 le 12 0 11,
 mi 13 0] [0, 1, 2, 11, 12, 13])
 (.block 0 (.loop [(0, true), (1, true), (2, false), (11, true), (12, false), (13, false)] (.seq (.reg none [bt 14 .lss 13 12] [0, 1, 2, 11, 12, 13, 14])
 (.seq (.cond (.t 14) .skip
 (.exit 0))
 (.seq (.block 1 (.seq (.reg none [mv 15 13,
 ia 16 [.int .i64 0, .int .i64 0, .str [], .sl false 4 0 []] 11 13,
 lm 17 4 16,
 i1 8 (.allocL [.int .i64 0, .int .i64 0, .str [], .sl true 4 0 []]),
 mv 7 15,
 st 4 8 17] [0, 1, 2, 7, 8, 11, 12, 13])
 (.seq (.seq (.reg none [mv 18 7,
 mv 19 1,
 le 20 0 19,
 bt 21 .geq 18 20] [0, 1, 2, 7, 8, 11, 12, 13, 21])
 (.cond (.t 21) (.seq (.reg none [mi 6 1] [6])
 .ret)
 .skip))
 (.seq (.reg none [mv 22 1,
 mv 23 7,
 ia 24 [.int .i64 0, .int .i64 0, .str [], .sl false 4 0 []] 22 23,
 lm 25 4 24,
 i1 9 (.allocL [.int .i64 0, .int .i64 0, .str [], .sl true 4 0 []]),
 st 4 9 25] [0, 1, 2, 8, 9, 11, 12, 13])
 (.seq (.reg none [mv 26 2,
 lm 27 4 8,
 lm 28 4 9,
 i1 29 (.callv (.t 26) [(.t 27), (.t 28)]),
 mv 10 29] [0, 1, 2, 10, 11, 12, 13])
 (.seq (.reg none [mv 30 10,
 bn 31 .neq 30 0] [0, 1, 2, 10, 11, 12, 13, 31])
 (.cond (.t 31) (.seq (.reg none [mv 32 10,
 mv 6 32] [6])
 .ret)
 .skip)))))))
 (.reg none [bn 33 .add 13 1,
 mv 13 33] [0, 1, 2, 11, 12, 13])))))))
 (.seq (.seq (.reg none [mt 34 0,
 le 35 0 34,
 mt 36 1,
 le 37 0 36,
 bt 38 .lss 35 37] [38])
 (.cond (.t 38) (.seq (.reg none [mi 6 (-1)] [6])
 .ret)
 .skip))
 (.seq (.reg none [mi 6 0] [6])
 .ret))))
def res_slices_CompareFuncapi_Value_api_Value_api_Value_api_Value : List IRes := [⟨6, true, none⟩]
theorem is_slices_CompareFuncapi_Value_api_Value_api_Value_api_Value : fnIs Go.Proofs.Tryz.prog 74 39 res_slices_CompareFuncapi_Value_api_Value_api_Value_api_Value ir_slices_CompareFuncapi_Value_api_Value_api_Value_api_Value = true := by kernel_rfl
theorem value_Compare_scc {fuel : Nat} : (∀ {a_0 : api_Value} {b_1 : api_Value} {s : Store} {Q : List AV → Store → Prop}, ok (value_Compare fuel a_0 b_1) (fun r => Q [.int .i64 r] s) → FN Go.Proofs.Tryz.prog 42 [.agg [.int .i64 a_0.Kind, .int .i64 a_0.N, .str a_0.S.b, .sl false 4 a_0.L.length (flat a_0.L)], .agg [.int .i64 b_1.Kind, .int .i64 b_1.N, .str b_1.S.b, .sl false 4 b_1.L.length (flat b_1.L)]] s Q)
  ∧ (∀ {s1_0 : (List api_Value)} {s2_1 : (List api_Value)} {s : Store} {Q : List AV → Store → Prop}, ok (slices_CompareFuncapi_Value_api_Value_api_Value_api_Value fuel s1_0 s2_1) (fun r => Q [.int .i64 r] s) → FN Go.Proofs.Tryz.prog 74 [.sl false 4 s1_0.length (flat s1_0), .sl false 4 s2_1.length (flat s2_1), .fn 42 [] []] s Q) := by
  induction fuel with
  | zero => exact ⟨by (intros; rename_i h; rw [value_Compare] at h; exact absurd h (by rw [ok_none]; exact fun h => h)), by (intros; rename_i h; rw [slices_CompareFuncapi_Value_api_Value_api_Value_api_Value] at h; exact absurd h (by rw [ok_none]; exact fun h => h))⟩
  | succ fuel ih =>
  have ihfe_42 : ∀ {a_0 : api_Value} {b_1 : api_Value} {s : Store} {r : Int}, value_Compare fuel a_0 b_1 = some r → FE Go.Proofs.Tryz.prog 42 [.agg [.int .i64 a_0.Kind, .int .i64 a_0.N, .str a_0.S.b, .sl false 4 a_0.L.length (flat a_0.L)], .agg [.int .i64 b_1.Kind, .int .i64 b_1.N, .str b_1.S.b, .sl false 4 b_1.L.length (flat b_1.L)]] s [.int .i64 r] s := fun h => ih.1 ⟨_, h, rfl, rfl⟩
  have ihfe_74 : ∀ {s1_0 : (List api_Value)} {s2_1 : (List api_Value)} {s : Store} {r : Int}, slices_CompareFuncapi_Value_api_Value_api_Value_api_Value fuel s1_0 s2_1 = some r → FE Go.Proofs.Tryz.prog 74 [.sl false 4 s1_0.length (flat s1_0), .sl false 4 s2_1.length (flat s2_1), .fn 42 [] []] s [.int .i64 r] s := fun h => ih.2 ⟨_, h, rfl, rfl⟩
  refine ⟨?_, ?_⟩
  · intro a_0 b_1 s Q h
    refine FN.of (draw_ok mix) is_value_Compare rfl (Nat.le_of_ble_eq_true rfl) ?_
    revert h
    rw [ir_value_Compare, res_value_Compare, value_Compare]
    repeat' (first
      | with_reducible exact tt_to
      | with_reducible refine and_to ?_ ?_
      | with_reducible refine im_to ?_
      | with_reducible refine call_to_q (fun _ (h : cmp_Compareint a_0.Kind b_1.Kind = some _) => cmp_Compareint_fe h) (fun _ => rfl) (fun r1 => ?_)
      | with_reducible refine call_to_q (fun _ (h : cmp_Compareint a_0.N b_1.N = some _) => cmp_Compareint_fe h) (fun _ => rfl) (fun r2 => ?_)
      | with_reducible refine call_to_q (fun _ (h : strings_Compare a_0.S b_1.S = some _) => strings_Compare_fe h) (fun _ => rfl) (fun r3 => ?_)
      | with_reducible refine call_to_q (fun _ (h : cmp_Orint [r1, r2, r3] = some _) => (by refine FE_cast ?_ (cmp_Orint_fe h); simp -implicitDefEqProofs only [go_sem, seval])) (fun _ => rfl) (fun r4 => ?_)
      | with_reducible refine call_to (fun _ (h : slices_CompareFuncapi_Value_api_Value_api_Value_api_Value fuel a_0.L b_1.L = some _) => ihfe_74 h) (fun r5 => ?_)
      | simp -implicitDefEqProofs only [go_sem, seval])
  · intro s1_0 s2_1 s Q h
    refine FN.of (draw_ok mix) is_slices_CompareFuncapi_Value_api_Value_api_Value_api_Value rfl (Nat.le_of_ble_eq_true rfl) ?_
    revert h
    rw [ir_slices_CompareFuncapi_Value_api_Value_api_Value_api_Value, res_slices_CompareFuncapi_Value_api_Value_api_Value_api_Value, slices_CompareFuncapi_Value_api_Value_api_Value_api_Value]
    repeat' (first
      | with_reducible exact tt_to
      | with_reducible refine and_to ?_ ?_
      | with_reducible refine im_to ?_
      | with_reducible refine call_to (fun _ (h : value_Compare fuel (ix s1_0 t4) (ix s2_1 t4) = some _) => ihfe_42 h) (fun r8 => ?_)
      | ((with_reducible refine iter_to (fun (t4 : Int) => ⟨[(0, .sl false 4 s1_0.length (flat s1_0)), (1, .sl false 4 s2_1.length (flat s2_1)), (2, .fn 42 [] []), (11, .sl false 4 s1_0.length (flat s1_0)), (12, .int .i64 (s1_0.length : Int)), (13, .int .i64 t4)], [], s⟩) ?_ ?_); (first | exact rfl | simp -implicitDefEqProofs only [go_sem, seval, fnok_42]); rintro J t4)
      | ((with_reducible refine join_toS (fun (_ : Unit) => ⟨[(0, .sl false 4 s1_0.length (flat s1_0)), (1, .sl false 4 s2_1.length (flat s2_1))], [], s⟩) (fun J => ?_) ?_); rotate_left; rintro _)
      | simp -implicitDefEqProofs only [go_sem, seval, fnok_42])
theorem value_Compare_fn {fuel : Nat} : ∀ {a_0 : api_Value} {b_1 : api_Value} {s : Store} {Q : List AV → Store → Prop}, ok (value_Compare fuel a_0 b_1) (fun r => Q [.int .i64 r] s) → FN Go.Proofs.Tryz.prog 42 [.agg [.int .i64 a_0.Kind, .int .i64 a_0.N, .str a_0.S.b, .sl false 4 a_0.L.length (flat a_0.L)], .agg [.int .i64 b_1.Kind, .int .i64 b_1.N, .str b_1.S.b, .sl false 4 b_1.L.length (flat b_1.L)]] s Q := value_Compare_scc.1
theorem value_Compare_fe {fuel : Nat} {a_0 b_1} {s : Store} {r : Int} (h : value_Compare fuel a_0 b_1 = some r) : FE Go.Proofs.Tryz.prog 42 [.agg [.int .i64 a_0.Kind, .int .i64 a_0.N, .str a_0.S.b, .sl false 4 a_0.L.length (flat a_0.L)], .agg [.int .i64 b_1.Kind, .int .i64 b_1.N, .str b_1.S.b, .sl false 4 b_1.L.length (flat b_1.L)]] s [.int .i64 r] s := value_Compare_fn ⟨r, h, rfl, rfl⟩
def value_Same (a_0 : api_Value) (b_1 : api_Value) : Option (Bool) :=
 bnd (value_Compare bigN a_0 b_1) fun r1 =>
 some (r1 == 0)
def ir_value_Same : IC :=
 (.seq (.reg none [i1 2 (.boxL 4 (.t 0)),
 i1 3 (.boxL 4 (.t 1)),
 mkk 4 (.bool false)] [2, 3])
 (.seq (.reg none [lm 5 4 2,
 lm 6 4 3,
 c2 7 42 5 6,
 bn 8 .eql 7 0,
 mv 4 8] [4])
 .ret))
def res_value_Same : List IRes := [⟨4, true, none⟩]
theorem is_value_Same : fnIs Go.Proofs.Tryz.prog 22 9 res_value_Same ir_value_Same = true := by kernel_rfl
theorem value_Same_fn {a_0 b_1} {s : Store} {Q : List AV → Store → Prop}  : ok (value_Same a_0 b_1) (fun r => Q [.bool r] s) → FN Go.Proofs.Tryz.prog 22 [.agg [.int .i64 a_0.Kind, .int .i64 a_0.N, .str a_0.S.b, .sl false 4 a_0.L.length (flat a_0.L)], .agg [.int .i64 b_1.Kind, .int .i64 b_1.N, .str b_1.S.b, .sl false 4 b_1.L.length (flat b_1.L)]] s Q := by
 intro h
 refine FN.of (draw_ok mix) is_value_Same rfl (Nat.le_of_ble_eq_true rfl) ?_
 revert h
 rw [ir_value_Same, res_value_Same, value_Same]
 repeat' (first
  | with_reducible refine call_to (fun _ (h : value_Compare bigN a_0 b_1 = some _) => value_Compare_fe h) (fun r1 => ?_)
  | simp -implicitDefEqProofs only [go_sem, seval])
theorem value_Same_fe {a_0 b_1} {s : Store} {r : Bool}  (h : value_Same a_0 b_1 = some r) : FE Go.Proofs.Tryz.prog 22 [.agg [.int .i64 a_0.Kind, .int .i64 a_0.N, .str a_0.S.b, .sl false 4 a_0.L.length (flat a_0.L)], .agg [.int .i64 b_1.Kind, .int .i64 b_1.N, .str b_1.S.b, .sl false 4 b_1.L.length (flat b_1.L)]] s [.bool r] s := value_Same_fn  ⟨r, h, rfl, rfl⟩
def frame_Same (a_0 : api_Object) (b_1 : api_Object) : Option (Bool) :=
 bnd (whenB (((a_0.Stream == b_1.Stream) != false) && (a_0.Data.b == b_1.Data.b)) false (value_Same a_0.V b_1.V)) fun r1 =>
 some ((((a_0.Stream == b_1.Stream) != false) && (a_0.Data.b == b_1.Data.b)) && r1)
def ir_frame_Same : IC :=
 (.seq (.reg none [i1 2 (.boxL 6 (.t 0)),
 i1 3 (.boxL 6 (.t 1)),
 mkk 4 (.bool false)] [2, 3])
 (.seq (.reg (some 18) [fa 5 4 2,
 ld 6 1 5,
 fa 7 4 3,
 ld 8 1 7,
 i1 9 (.eqB false (.t 6) (.t 8)),
 mv 10 9,
 fg 11 10 true 5 2,
 lg 12 10 true 1 11,
 fg 13 10 true 5 3,
 lg 14 10 true 1 13,
 i1g 15 10 true (.bin .eql (.t 12) (.t 14)),
 pf 16 10 15,
 mv 17 16,
 fg 18 17 true 0 2,
 i1g 19 17 true (.load 4 true (.t 18)),
 fg 20 17 true 0 3,
 i1g 21 17 true (.load 4 true (.t 20)),
 i1g 22 17 true (.call 22 [(.t 19), (.t 21)]),
 pf 23 17 22,
 mv 4 23] [4])
 .ret))
def res_frame_Same : List IRes := [⟨4, true, none⟩]
theorem is_frame_Same : fnIs Go.Proofs.Tryz.prog 8 24 res_frame_Same ir_frame_Same = true := by kernel_rfl
theorem frame_Same_fn {a_0 b_1} {s : Store} {Q : List AV → Store → Prop}  : ok (frame_Same a_0 b_1) (fun r => Q [.bool r] s) → FN Go.Proofs.Tryz.prog 8 [.agg [.int .i64 a_0.V.Kind, .int .i64 a_0.V.N, .str a_0.V.S.b, .sl false 4 a_0.V.L.length (flat a_0.V.L), .bool a_0.Stream, .str a_0.Data.b], .agg [.int .i64 b_1.V.Kind, .int .i64 b_1.V.N, .str b_1.V.S.b, .sl false 4 b_1.V.L.length (flat b_1.V.L), .bool b_1.Stream, .str b_1.Data.b]] s Q := by
 intro h
 refine FN.of (draw_ok mix) is_frame_Same rfl (Nat.le_of_ble_eq_true rfl) ?_
 revert h
 rw [ir_frame_Same, res_frame_Same, frame_Same]
 repeat' (first
  | with_reducible refine call_to_g rfl (fun _ (h : value_Same a_0.V b_1.V = some _) => value_Same_fe h) (fun _ => rfl) (fun r1 => ?_)
  | simp -implicitDefEqProofs only [go_sem, seval])
theorem frame_Same_fe {a_0 b_1} {s : Store} {r : Bool}  (h : frame_Same a_0 b_1 = some r) : FE Go.Proofs.Tryz.prog 8 [.agg [.int .i64 a_0.V.Kind, .int .i64 a_0.V.N, .str a_0.V.S.b, .sl false 4 a_0.V.L.length (flat a_0.V.L), .bool a_0.Stream, .str a_0.Data.b], .agg [.int .i64 b_1.V.Kind, .int .i64 b_1.V.N, .str b_1.V.S.b, .sl false 4 b_1.V.L.length (flat b_1.V.L), .bool b_1.Stream, .str b_1.Data.b]] s [.bool r] s := frame_Same_fn  ⟨r, h, rfl, rfl⟩
def frame_Object (v_0 : api_Value) : Option (api_Object) :=
 some (api_Object.mk v_0 false (Str.mk []))
def ir_frame_Object : IC :=
 (.seq (.reg none [i1 1 (.boxL 4 (.t 0)),
 i1 2 (.allocL [.int .i64 0, .int .i64 0, .str [], .sl true 4 0 [], .bool false, .str []])] [1, 2])
 (.seq (.reg none [lm 3 4 1,
 i1 4 (.build [.int .i64 0, .int .i64 0, .str [], .sl true 4 0 [], .bool false, .str []] [(0, 4, (.t 3))]),
 st 6 2 4] [2])
 .ret))
def res_frame_Object : List IRes := [⟨2, false, some (6, true)⟩]
theorem is_frame_Object : fnIs Go.Proofs.Tryz.prog 10 5 res_frame_Object ir_frame_Object = true := by kernel_rfl
theorem frame_Object_fn {v_0} {s : Store} {Q : List AV → Store → Prop}  : ok (frame_Object v_0) (fun r => Q [.agg [.int .i64 r.V.Kind, .int .i64 r.V.N, .str r.V.S.b, .sl false 4 r.V.L.length (flat r.V.L), .bool r.Stream, .str r.Data.b]] s) → FN Go.Proofs.Tryz.prog 10 [.agg [.int .i64 v_0.Kind, .int .i64 v_0.N, .str v_0.S.b, .sl false 4 v_0.L.length (flat v_0.L)]] s Q := by
 intro h
 refine FN.of (draw_ok mix) is_frame_Object rfl (Nat.le_of_ble_eq_true rfl) ?_
 revert h
 rw [ir_frame_Object, res_frame_Object, frame_Object]
 repeat' (first
  | simp -implicitDefEqProofs only [go_sem, seval])
theorem frame_Object_fe {v_0} {s : Store} {r : api_Object}  (h : frame_Object v_0 = some r) : FE Go.Proofs.Tryz.prog 10 [.agg [.int .i64 v_0.Kind, .int .i64 v_0.N, .str v_0.S.b, .sl false 4 v_0.L.length (flat v_0.L)]] s [.agg [.int .i64 r.V.Kind, .int .i64 r.V.N, .str r.V.S.b, .sl false 4 r.V.L.length (flat r.V.L), .bool r.Stream, .str r.Data.b]] s := frame_Object_fn  ⟨r, h, rfl, rfl⟩
def frame_Stream (v_0 : api_Value) (data_1 : Str) : Option (api_Object) :=
 some (api_Object.mk v_0 true data_1)
def ir_frame_Stream : IC :=
 (.seq (.reg none [i1 2 (.boxL 4 (.t 0)),
 i1 4 (.allocL [.int .i64 0, .int .i64 0, .str [], .sl true 4 0 [], .bool false, .str []])] [1, 2, 4])
 (.seq (.reg none [lm 5 4 2,
 mv 6 1,
 i1 7 (.build [.int .i64 0, .int .i64 0, .str [], .sl true 4 0 [], .bool false, .str []] [(0, 4, (.t 5)), (4, 1, (.c (.bool true))), (5, 1, (.t 6))]),
 st 6 4 7] [4])
 .ret))
def res_frame_Stream : List IRes := [⟨4, false, some (6, true)⟩]
theorem is_frame_Stream : fnIs Go.Proofs.Tryz.prog 11 8 res_frame_Stream ir_frame_Stream = true := by kernel_rfl
theorem frame_Stream_fn {v_0 data_1} {s : Store} {Q : List AV → Store → Prop}  : ok (frame_Stream v_0 data_1) (fun r => Q [.agg [.int .i64 r.V.Kind, .int .i64 r.V.N, .str r.V.S.b, .sl false 4 r.V.L.length (flat r.V.L), .bool r.Stream, .str r.Data.b]] s) → FN Go.Proofs.Tryz.prog 11 [.agg [.int .i64 v_0.Kind, .int .i64 v_0.N, .str v_0.S.b, .sl false 4 v_0.L.length (flat v_0.L)], .str data_1.b] s Q := by
 intro h
 refine FN.of (draw_ok mix) is_frame_Stream rfl (Nat.le_of_ble_eq_true rfl) ?_
 revert h
 rw [ir_frame_Stream, res_frame_Stream, frame_Stream]
 repeat' (first
  | simp -implicitDefEqProofs only [go_sem, seval])
theorem frame_Stream_fe {v_0 data_1} {s : Store} {r : api_Object}  (h : frame_Stream v_0 data_1 = some r) : FE Go.Proofs.Tryz.prog 11 [.agg [.int .i64 v_0.Kind, .int .i64 v_0.N, .str v_0.S.b, .sl false 4 v_0.L.length (flat v_0.L)], .str data_1.b] s [.agg [.int .i64 r.V.Kind, .int .i64 r.V.N, .str r.V.S.b, .sl false 4 r.V.L.length (flat r.V.L), .bool r.Stream, .str r.Data.b]] s := frame_Stream_fn  ⟨r, h, rfl, rfl⟩
end Go.AB
end
