/- The abstract layer, part 3: how the walk is rewritten. -/
import Derived.Test.YtbinmjafmcaehaaAb2
import Derived.Attr
namespace Go.AB
open Go

section
variable (P : Program) (K : St → Prop) (Q : Exit → St → Prop) (σ τ : St) (d : Option Nat)
@[go_sem] theorem swp_nil : swp P [] σ K = K σ := rfl
@[go_sem] theorem swp_cons (o : IOper) (r : List IOper) : swp P (o :: r) σ K = gwp P o σ (swpK P r K) := rfl
@[go_sem] theorem swpK_app (r : List IOper) : swpK P r K τ = swp P r τ K := rfl
@[go_sem] theorem qwpK_app (q : Nat) (r : List IOper) : qwpK P q r K τ = qwp P q r τ K := rfl
@[go_sem] theorem regK_app (live : List Nat) : regK live Q τ = Q .normal (τ.keep live) := rfl
@[go_sem] theorem gwp_none (op : IOp) : gwp P ⟨d, op, none⟩ σ K = nxt P op σ d K (pv op (xg true σ) σ) := rfl
@[go_sem] theorem owp_eq (op : IOp) : owp P op d σ K = nxt P op σ d K (pv op (xg true σ) σ) := rfl
@[go_sem] theorem gwp_some (op : IOp) (t : Nat) (want : Bool) : gwp P ⟨d, op, some (t, want)⟩ σ K = gsel P op d t want σ K (look σ.e t) := rfl
@[go_sem] theorem cwp_skip : cwp P .skip Q σ = Q .normal σ := rfl
@[go_sem] theorem cwp_reg (ops : List IOper) (live : List Nat) : cwp P (.reg none ops live) Q σ = swp P ops σ (regK live Q) := rfl
@[go_sem] theorem cwp_regq (q : Nat) (ops : List IOper) (live : List Nat) : cwp P (.reg (some q) ops live) Q σ = qwp P q ops σ (regK live Q) := rfl
@[go_sem] theorem cwp_seq (a b : IC) : cwp P (.seq a b) Q σ = cwp P a (seqK P b Q) σ := by
  have : (fun x τ => match x with | .normal => cwp P b Q τ | x => Q x τ) = seqK P b Q := by funext x τ; cases x <;> rfl
  rw [← this]; rfl
@[go_sem] theorem cwp_cond (x : IX) (a b : IC) : cwp P (.cond x a b) Q σ = condW P a b Q σ (σ.x x) := by
  show (match σ.x x with | .bool v => (v = true → cwp P a Q σ) ∧ (v = false → cwp P b Q σ) | _ => False) = _
  cases σ.x x <;> rfl
@[go_sem] theorem cwp_block (i : Nat) (b : IC) : cwp P (.block i b) Q σ = cwp P b (blkK i Q) σ := rfl
@[go_sem] theorem cwp_exit (i : Nat) : cwp P (.exit i) Q σ = Q (.exit i) σ := rfl
@[go_sem] theorem cwp_label (i : Nat) : cwp P (.label i) Q σ = Q .normal σ := rfl
@[go_sem] theorem cwp_goto (i : Nat) : cwp P (.goto i) Q σ = Q (.goto i) σ := rfl
@[go_sem] theorem cwp_ret : cwp P .ret Q σ = Q .ret σ := rfl
@[go_sem] theorem condW_bool (a b : IC) (v : Bool) : condW P a b Q σ (.bool v) = ((v = true → cwp P a Q σ) ∧ (v = false → cwp P b Q σ)) := rfl
@[go_sem] theorem seqK_normal (b : IC) : seqK P b Q .normal τ = cwp P b Q τ := rfl
@[go_sem] theorem seqK_ret (b : IC) : seqK P b Q .ret τ = Q .ret τ := rfl
@[go_sem] theorem seqK_exit (b : IC) (i : Nat) : seqK P b Q (.exit i) τ = Q (.exit i) τ := rfl
@[go_sem] theorem seqK_goto (b : IC) (i : Nat) : seqK P b Q (.goto i) τ = Q (.goto i) τ := rfl
@[go_sem] theorem blkK_normal (i : Nat) : blkK i Q .normal τ = Q .normal τ := rfl
@[go_sem] theorem blkK_ret (i : Nat) : blkK i Q .ret τ = Q .ret τ := rfl
@[go_sem] theorem blkK_goto (i l : Nat) : blkK i Q (.goto l) τ = Q (.goto l) τ := rfl
@[go_sem] theorem blkK_exit (i j : Nat) : blkK i Q (.exit j) τ = bif j == i then Q .normal τ else Q (.exit j) τ := rfl
@[go_sem] theorem joinK_normal (live : List (Nat × Bool)) (J : St → Prop) : joinK live J Q .normal τ = J (τ.keepV live) := rfl
@[go_sem] theorem joinK_ret (live : List (Nat × Bool)) (J : St → Prop) : joinK live J Q .ret τ = Q .ret τ := rfl
@[go_sem] theorem joinK_exit (live : List (Nat × Bool)) (J : St → Prop) (i : Nat) : joinK live J Q (.exit i) τ = Q (.exit i) τ := rfl
@[go_sem] theorem joinK_goto (live : List (Nat × Bool)) (J : St → Prop) (i : Nat) : joinK live J Q (.goto i) τ = Q (.goto i) τ := rfl
@[go_sem] theorem loopK_normal (live : List (Nat × Bool)) (I : St → Prop) (μ : St → Nat) (m : Nat) : loopK live I μ m Q .normal τ = (I (τ.keepV live) ∧ μ (τ.keepV live) < m) := rfl
@[go_sem] theorem loopK_ret (live : List (Nat × Bool)) (I : St → Prop) (μ : St → Nat) (m : Nat) : loopK live I μ m Q .ret τ = Q .ret τ := rfl
@[go_sem] theorem loopK_exit (live : List (Nat × Bool)) (I : St → Prop) (μ : St → Nat) (m i : Nat) : loopK live I μ m Q (.exit i) τ = Q (.exit i) τ := rfl
@[go_sem] theorem loopK_goto (live : List (Nat × Bool)) (I : St → Prop) (μ : St → Nat) (m i : Nat) : loopK live I μ m Q (.goto i) τ = Q (.goto i) τ := rfl
end

section
@[go_sem] theorem isV_undef  : isV (.undef) = false := rfl
@[go_sem] theorem unw_undef (g : Bool)  : unw g (.undef) = (.undef) := rfl
@[go_sem] theorem view_undef  : view (.undef) = (.undef) := rfl
@[go_sem] theorem cellsOf_undef  : cellsOf (.undef) = [(.undef)] := rfl
@[go_sem] theorem stCells_undef  : stCells (.undef) = [(.undef)] := rfl
@[go_sem] theorem lpReg_undef (σ : St) (i : Nat)  : lpReg σ (.undef) (some i) = σ := rfl
@[go_sem] theorem lpRegN_undef (σ : St)  : lpReg σ (.undef) none = σ := rfl
@[go_sem] theorem isV_bool (b : Bool) : isV (.bool b) = true := rfl
@[go_sem] theorem unw_bool (g : Bool) (b : Bool) : unw g (.bool b) = (.bool b) := rfl
@[go_sem] theorem view_bool (b : Bool) : view (.bool b) = (.bool b) := rfl
@[go_sem] theorem cellsOf_bool (b : Bool) : cellsOf (.bool b) = [(.bool b)] := rfl
@[go_sem] theorem stCells_bool (b : Bool) : stCells (.bool b) = [(.bool b)] := rfl
@[go_sem] theorem lpReg_bool (σ : St) (i : Nat) (b : Bool) : lpReg σ (.bool b) (some i) = σ := rfl
@[go_sem] theorem lpRegN_bool (σ : St) (b : Bool) : lpReg σ (.bool b) none = σ := rfl
@[go_sem] theorem isV_int (k : IntKind) (n : Int) : isV (.int k n) = true := rfl
@[go_sem] theorem unw_int (g : Bool) (k : IntKind) (n : Int) : unw g (.int k n) = (.int k n) := rfl
@[go_sem] theorem view_int (k : IntKind) (n : Int) : view (.int k n) = (.int k n) := rfl
@[go_sem] theorem cellsOf_int (k : IntKind) (n : Int) : cellsOf (.int k n) = [(.int k n)] := rfl
@[go_sem] theorem stCells_int (k : IntKind) (n : Int) : stCells (.int k n) = [(.int k n)] := rfl
@[go_sem] theorem lpReg_int (σ : St) (i : Nat) (k : IntKind) (n : Int) : lpReg σ (.int k n) (some i) = σ := rfl
@[go_sem] theorem lpRegN_int (σ : St) (k : IntKind) (n : Int) : lpReg σ (.int k n) none = σ := rfl
@[go_sem] theorem isV_str (s : List UInt8) : isV (.str s) = true := rfl
@[go_sem] theorem unw_str (g : Bool) (s : List UInt8) : unw g (.str s) = (.str s) := rfl
@[go_sem] theorem view_str (s : List UInt8) : view (.str s) = (.str s) := rfl
@[go_sem] theorem cellsOf_str (s : List UInt8) : cellsOf (.str s) = [(.str s)] := rfl
@[go_sem] theorem stCells_str (s : List UInt8) : stCells (.str s) = [(.str s)] := rfl
@[go_sem] theorem lpReg_str (σ : St) (i : Nat) (s : List UInt8) : lpReg σ (.str s) (some i) = σ := rfl
@[go_sem] theorem lpRegN_str (σ : St) (s : List UInt8) : lpReg σ (.str s) none = σ := rfl
@[go_sem] theorem isV_nilp  : isV (.nilp) = true := rfl
@[go_sem] theorem unw_nilp (g : Bool)  : unw g (.nilp) = (.nilp) := rfl
@[go_sem] theorem view_nilp  : view (.nilp) = (.nilp) := rfl
@[go_sem] theorem cellsOf_nilp  : cellsOf (.nilp) = [(.nilp)] := rfl
@[go_sem] theorem stCells_nilp  : stCells (.nilp) = [(.nilp)] := rfl
@[go_sem] theorem lpReg_nilp (σ : St) (i : Nat)  : lpReg σ (.nilp) (some i) = σ := rfl
@[go_sem] theorem lpRegN_nilp (σ : St)  : lpReg σ (.nilp) none = σ := rfl
@[go_sem] theorem isV_ref (b o : Nat) : isV (.ref b o) = true := rfl
@[go_sem] theorem unw_ref (g : Bool) (b o : Nat) : unw g (.ref b o) = (.ref b o) := rfl
@[go_sem] theorem view_ref (b o : Nat) : view (.ref b o) = (.ref b o) := rfl
@[go_sem] theorem cellsOf_ref (b o : Nat) : cellsOf (.ref b o) = [(.ref b o)] := rfl
@[go_sem] theorem stCells_ref (b o : Nat) : stCells (.ref b o) = [(.ref b o)] := rfl
@[go_sem] theorem lpReg_ref (σ : St) (i : Nat) (b o : Nat) : lpReg σ (.ref b o) (some i) = σ := rfl
@[go_sem] theorem lpRegN_ref (σ : St) (b o : Nat) : lpReg σ (.ref b o) none = σ := rfl
@[go_sem] theorem isV_lp (b o : Nat) : isV (.lp b o) = false := rfl
@[go_sem] theorem unw_lp (g : Bool) (b o : Nat) : unw g (.lp b o) = (.lp b o) := rfl
@[go_sem] theorem view_lp (b o : Nat) : view (.lp b o) = (.lp b o) := rfl
@[go_sem] theorem cellsOf_lp (b o : Nat) : cellsOf (.lp b o) = [(.lp b o)] := rfl
@[go_sem] theorem stCells_lp (b o : Nat) : stCells (.lp b o) = [(.lp b o)] := rfl
@[go_sem] theorem lpRegB_lp (σ : St) (i : Nat) (b o : Nat) : lpReg σ (.lp b o) (some i) = { σ with lp := (i, b) :: σ.lp } := rfl
@[go_sem] theorem lpRegN_lp (σ : St) (b o : Nat) : lpReg σ (.lp b o) none = σ := rfl
@[go_sem] theorem isV_sp (cs : List AV) : isV (.sp cs) = true := rfl
@[go_sem] theorem unw_sp (g : Bool) (cs : List AV) : unw g (.sp cs) = (.sp cs) := rfl
@[go_sem] theorem view_sp (cs : List AV) : view (.sp cs) = (.sp cs) := rfl
@[go_sem] theorem cellsOf_sp (cs : List AV) : cellsOf (.sp cs) = [(.sp cs)] := rfl
@[go_sem] theorem stCells_sp (cs : List AV) : stCells (.sp cs) = [(.sp cs)] := rfl
@[go_sem] theorem lpReg_sp (σ : St) (i : Nat) (cs : List AV) : lpReg σ (.sp cs) (some i) = σ := rfl
@[go_sem] theorem lpRegN_sp (σ : St) (cs : List AV) : lpReg σ (.sp cs) none = σ := rfl
@[go_sem] theorem isV_loc (cs : List AV) : isV (.loc cs) = false := rfl
@[go_sem] theorem unw_loc (g : Bool) (cs : List AV) : unw g (.loc cs) = (.loc cs) := rfl
@[go_sem] theorem view_loc (cs : List AV) : view (.loc cs) = (.loc cs) := rfl
@[go_sem] theorem cellsOf_loc (cs : List AV) : cellsOf (.loc cs) = [(.loc cs)] := rfl
@[go_sem] theorem stCells_loc (cs : List AV) : stCells (.loc cs) = [(.loc cs)] := rfl
@[go_sem] theorem lpReg_loc (σ : St) (i : Nat) (cs : List AV) : lpReg σ (.loc cs) (some i) = σ := rfl
@[go_sem] theorem lpRegN_loc (σ : St) (cs : List AV) : lpReg σ (.loc cs) none = σ := rfl
@[go_sem] theorem isV_sl (o : Bool) (z n : Nat) (cs : List AV) : isV (.sl o z n cs) = true := rfl
@[go_sem] theorem unw_sl (g : Bool) (o : Bool) (z n : Nat) (cs : List AV) : unw g (.sl o z n cs) = (.sl o z n cs) := rfl
@[go_sem] theorem view_sl (o : Bool) (z n : Nat) (cs : List AV) : view (.sl o z n cs) = (.sl false z n cs) := rfl
@[go_sem] theorem cellsOf_sl (o : Bool) (z n : Nat) (cs : List AV) : cellsOf (.sl o z n cs) = [(.sl o z n cs)] := rfl
@[go_sem] theorem stCells_sl (o : Bool) (z n : Nat) (cs : List AV) : stCells (.sl o z n cs) = [(.sl o z n cs)] := rfl
@[go_sem] theorem lpReg_sl (σ : St) (i : Nat) (o : Bool) (z n : Nat) (cs : List AV) : lpReg σ (.sl o z n cs) (some i) = σ := rfl
@[go_sem] theorem lpRegN_sl (σ : St) (o : Bool) (z n : Nat) (cs : List AV) : lpReg σ (.sl o z n cs) none = σ := rfl
@[go_sem] theorem isV_arr (b o l c : Nat) : isV (.arr b o l c) = true := rfl
@[go_sem] theorem unw_arr (g : Bool) (b o l c : Nat) : unw g (.arr b o l c) = (.arr b o l c) := rfl
@[go_sem] theorem view_arr (b o l c : Nat) : view (.arr b o l c) = (.arr b o l c) := rfl
@[go_sem] theorem cellsOf_arr (b o l c : Nat) : cellsOf (.arr b o l c) = [(.arr b o l c)] := rfl
@[go_sem] theorem stCells_arr (b o l c : Nat) : stCells (.arr b o l c) = [(.arr b o l c)] := rfl
@[go_sem] theorem lpReg_arr (σ : St) (i : Nat) (b o l c : Nat) : lpReg σ (.arr b o l c) (some i) = σ := rfl
@[go_sem] theorem lpRegN_arr (σ : St) (b o l c : Nat) : lpReg σ (.arr b o l c) none = σ := rfl
@[go_sem] theorem isV_agg (cs : List AV) : isV (.agg cs) = true := rfl
@[go_sem] theorem unw_agg (g : Bool) (cs : List AV) : unw g (.agg cs) = (.agg cs) := rfl
@[go_sem] theorem view_agg (cs : List AV) : view (.agg cs) = (.agg cs) := rfl
@[go_sem] theorem cellsOf_agg (cs : List AV) : cellsOf (.agg cs) = cs := rfl
@[go_sem] theorem stCells_agg (cs : List AV) : stCells (.agg cs) = views cs := rfl
@[go_sem] theorem lpReg_agg (σ : St) (i : Nat) (cs : List AV) : lpReg σ (.agg cs) (some i) = σ := rfl
@[go_sem] theorem lpRegN_agg (σ : St) (cs : List AV) : lpReg σ (.agg cs) none = σ := rfl
@[go_sem] theorem isV_tup (cs : List AV) : isV (.tup cs) = false := rfl
@[go_sem] theorem unw_tup (g : Bool) (cs : List AV) : unw g (.tup cs) = (.tup cs) := rfl
@[go_sem] theorem view_tup (cs : List AV) : view (.tup cs) = (.tup cs) := rfl
@[go_sem] theorem cellsOf_tup (cs : List AV) : cellsOf (.tup cs) = [(.tup cs)] := rfl
@[go_sem] theorem stCells_tup (cs : List AV) : stCells (.tup cs) = [(.tup cs)] := rfl
@[go_sem] theorem lpReg_tup (σ : St) (i : Nat) (cs : List AV) : lpReg σ (.tup cs) (some i) = σ := rfl
@[go_sem] theorem lpRegN_tup (σ : St) (cs : List AV) : lpReg σ (.tup cs) none = σ := rfl
@[go_sem] theorem isV_fn (f : Nat) (x y : List AV) : isV (.fn f x y) = true := rfl
@[go_sem] theorem unw_fn (g : Bool) (f : Nat) (x y : List AV) : unw g (.fn f x y) = (.fn f x y) := rfl
@[go_sem] theorem view_fn (f : Nat) (x y : List AV) : view (.fn f x y) = (.fn f x y) := rfl
@[go_sem] theorem cellsOf_fn (f : Nat) (x y : List AV) : cellsOf (.fn f x y) = [(.fn f x y)] := rfl
@[go_sem] theorem stCells_fn (f : Nat) (x y : List AV) : stCells (.fn f x y) = [(.fn f x y)] := rfl
@[go_sem] theorem lpReg_fn (σ : St) (i : Nat) (f : Nat) (x y : List AV) : lpReg σ (.fn f x y) (some i) = σ := rfl
@[go_sem] theorem lpRegN_fn (σ : St) (f : Nat) (x y : List AV) : lpReg σ (.fn f x y) none = σ := rfl
@[go_sem] theorem isV_nilf  : isV (.nilf) = true := rfl
@[go_sem] theorem unw_nilf (g : Bool)  : unw g (.nilf) = (.nilf) := rfl
@[go_sem] theorem view_nilf  : view (.nilf) = (.nilf) := rfl
@[go_sem] theorem cellsOf_nilf  : cellsOf (.nilf) = [(.nilf)] := rfl
@[go_sem] theorem stCells_nilf  : stCells (.nilf) = [(.nilf)] := rfl
@[go_sem] theorem lpReg_nilf (σ : St) (i : Nat)  : lpReg σ (.nilf) (some i) = σ := rfl
@[go_sem] theorem lpRegN_nilf (σ : St)  : lpReg σ (.nilf) none = σ := rfl
@[go_sem] theorem isV_mp (b : Nat) : isV (.mp b) = true := rfl
@[go_sem] theorem unw_mp (g : Bool) (b : Nat) : unw g (.mp b) = (.mp b) := rfl
@[go_sem] theorem view_mp (b : Nat) : view (.mp b) = (.mp b) := rfl
@[go_sem] theorem cellsOf_mp (b : Nat) : cellsOf (.mp b) = [(.mp b)] := rfl
@[go_sem] theorem stCells_mp (b : Nat) : stCells (.mp b) = [(.mp b)] := rfl
@[go_sem] theorem lpReg_mp (σ : St) (i : Nat) (b : Nat) : lpReg σ (.mp b) (some i) = σ := rfl
@[go_sem] theorem lpRegN_mp (σ : St) (b : Nat) : lpReg σ (.mp b) none = σ := rfl
@[go_sem] theorem isV_nilm  : isV (.nilm) = true := rfl
@[go_sem] theorem unw_nilm (g : Bool)  : unw g (.nilm) = (.nilm) := rfl
@[go_sem] theorem view_nilm  : view (.nilm) = (.nilm) := rfl
@[go_sem] theorem cellsOf_nilm  : cellsOf (.nilm) = [(.nilm)] := rfl
@[go_sem] theorem stCells_nilm  : stCells (.nilm) = [(.nilm)] := rfl
@[go_sem] theorem lpReg_nilm (σ : St) (i : Nat)  : lpReg σ (.nilm) (some i) = σ := rfl
@[go_sem] theorem lpRegN_nilm (σ : St)  : lpReg σ (.nilm) none = σ := rfl
@[go_sem] theorem isV_when (b : Bool) (a : AV) : isV (.when b a) = false := rfl
@[go_sem] theorem view_when (b : Bool) (a : AV) : view (.when b a) = (.when b a) := rfl
@[go_sem] theorem cellsOf_when (b : Bool) (a : AV) : cellsOf (.when b a) = [(.when b a)] := rfl
@[go_sem] theorem stCells_when (b : Bool) (a : AV) : stCells (.when b a) = [(.when b a)] := rfl
@[go_sem] theorem pvn_mov_true (f : IX → AV) (σ : St) (x : IX) : pv (.mov true x) f σ = .no := rfl
@[go_sem] theorem pvn_allocL (f : IX → AV) (σ : St) (z : List AV) : pv (.allocL z) f σ = .no := rfl
@[go_sem] theorem pvn_allocS (f : IX → AV) (σ : St) (z : List AV) : pv (.allocS z) f σ = .no := rfl
@[go_sem] theorem pvn_boxL (f : IX → AV) (σ : St) (n : Nat) (x : IX) : pv (.boxL n x) f σ = .no := rfl
@[go_sem] theorem pvn_boxS (f : IX → AV) (σ : St) (n : Nat) (x : IX) : pv (.boxS n x) f σ = .no := rfl
@[go_sem] theorem pvn_buildSl (f : IX → AV) (σ : St) (a b : Nat) (z : List AV) (p : List (Nat × Nat × IX)) : pv (.buildSl a b z p) f σ = .no := rfl
@[go_sem] theorem pvn_store (f : IX → AV) (σ : St) (n : Nat) (p v : IX) : pv (.store n p v) f σ = .no := rfl
@[go_sem] theorem pvn_append (f : IX → AV) (σ : St) (a b : Nat) (x y : IX) : pv (.append a b x y) f σ = .no := rfl
@[go_sem] theorem pv_cvtStr' (f : IX → AV) (σ : St) (x : IX) : pv (.cvtStr x) f σ = cvtStrV (f x) := rfl
attribute [go_sem] cvtStrV.eq_1 strPR.eq_1 consO.eq_1
@[go_sem] theorem pvn_cvtBytes (f : IX → AV) (σ : St) (x : IX) : pv (.cvtBytes x) f σ = .no := rfl
@[go_sem] theorem pvn_makeSl (f : IX → AV) (σ : St) (a b : Nat) (z : List AV) (x y : IX) : pv (.makeSl a b z x y) f σ = .no := rfl
@[go_sem] theorem pvn_makeMap (f : IX → AV) (σ : St)  : pv (.makeMap) f σ = .no := rfl
@[go_sem] theorem pvn_call (f : IX → AV) (σ : St) (n : Nat) (l : List IX) : pv (.call n l) f σ = .no := rfl
@[go_sem] theorem pvn_callv (f : IX → AV) (σ : St) (x : IX) (l : List IX) : pv (.callv x l) f σ = .no := rfl
@[go_sem] theorem inner_undef  : inner (.undef) = true := rfl
@[go_sem] theorem inner_bool (b : Bool) : inner (.bool b) = true := rfl
@[go_sem] theorem inner_int (k : IntKind) (n : Int) : inner (.int k n) = true := rfl
@[go_sem] theorem inner_str (s : List UInt8) : inner (.str s) = true := rfl
@[go_sem] theorem inner_nilp  : inner (.nilp) = true := rfl
@[go_sem] theorem inner_ref (b o : Nat) : inner (.ref b o) = true := rfl
@[go_sem] theorem inner_lp (b o : Nat) : inner (.lp b o) = true := rfl
@[go_sem] theorem inner_sp (cs : List AV) : inner (.sp cs) = true := rfl
@[go_sem] theorem inner_loc (cs : List AV) : inner (.loc cs) = false := rfl
@[go_sem] theorem inner_sl (o : Bool) (z n : Nat) (cs : List AV) : inner (.sl o z n cs) = true := rfl
@[go_sem] theorem inner_arr (b o l c : Nat) : inner (.arr b o l c) = true := rfl
@[go_sem] theorem inner_agg (cs : List AV) : inner (.agg cs) = true := rfl
@[go_sem] theorem inner_tup (cs : List AV) : inner (.tup cs) = true := rfl
@[go_sem] theorem inner_fn (f : Nat) (x y : List AV) : inner (.fn f x y) = true := rfl
@[go_sem] theorem inner_nilf  : inner (.nilf) = true := rfl
@[go_sem] theorem inner_mp (b : Nat) : inner (.mp b) = true := rfl
@[go_sem] theorem inner_nilm  : inner (.nilm) = true := rfl
@[go_sem] theorem inner_when (b : Bool) (a : AV) : inner (.when b a) = false := rfl
@[go_sem] theorem unw_when_true (g : Bool) (a : AV) : unw g (.when true a) = bif inner a then a else .undef := by simp [unw]
@[go_sem] theorem unw_when_self (g : Bool) (a : AV) : unw g (.when g a) = bif inner a then a else .undef := by simp [unw]
@[go_sem] theorem bx_bool (b x : Bool) : bx b (.bool x) = some x := rfl
@[go_sem] theorem bx_when_self (b x : Bool) : bx b (.when b (.bool x)) = some x := by simp [bx]
@[go_sem] theorem bx_when_true (b x : Bool) : bx b (.when true (.bool x)) = some x := by simp [bx]
@[go_sem] theorem cond_and (b x : Bool) : (bif b then x else false) = (b && x) := by cases b <;> rfl
@[go_sem] theorem cond_or (b x : Bool) : (bif b then true else x) = (b || x) := by cases b <;> rfl
@[go_sem] theorem beq_t (b : Bool) : (b == true) = b := by cases b <;> rfl
@[go_sem] theorem beq_f (b : Bool) : (b == false) = !b := by cases b <;> rfl
@[go_sem] theorem kEq_self (k : IntKind) : kEq k k = true := by simp [kEq]
@[go_sem] theorem rsOK_nil : rsOK [] = true := rfl
@[go_sem] theorem rsOK_two (a b : AV) (l : List AV) : rsOK (a :: b :: l) = true := rfl
@[go_sem] theorem retV_nil : retV [] = .tup [] := rfl
@[go_sem] theorem retV_two (a b : AV) (l : List AV) : retV (a :: b :: l) = .tup (a :: b :: l) := rfl
@[go_sem] theorem views_nil : views [] = [] := rfl
@[go_sem] theorem views_cons (a : AV) (l : List AV) : views (a :: l) = view a :: views l := rfl
@[go_sem] theorem x_t (σ : St) (i : Nat) : σ.x (.t i) = look σ.e i := rfl
@[go_sem] theorem x_c (σ : St) (a : AV) : σ.x (.c a) = a := rfl
@[go_sem] theorem put_some (σ : St) (i : Nat) (a : AV) : σ.put (some i) a = { σ with e := (i, a) :: σ.e } := rfl
@[go_sem] theorem put_none (σ : St) (a : AV) : σ.put none a = σ := rfl
@[go_sem] theorem look_nil (i : Nat) : look [] i = .undef := rfl
@[go_sem] theorem look_consB (j i : Nat) (a : AV) (l : List (Nat × AV)) : look ((j, a) :: l) i = bif j == i then a else look l i := rfl
section
variable (P : Program) (K : St → Prop) (σ : St)
@[go_sem] theorem qwp_zero (l : List IOper) : qwp P 0 l σ K = swp P l σ K := rfl
@[go_sem] theorem qwp_nil (q : Nat) : qwp P (q + 1) [] σ K = K σ := rfl
@[go_sem] theorem qwp_cons (q : Nat) (o : IOper) (r : List IOper) : qwp P (q + 1) (o :: r) σ K = (slotFree σ o.dst = true ∧ q1 P o σ (qwpK P q r K)) := rfl
@[go_sem] theorem q1_mov (d : Option Nat) (x : IX) : q1 P ⟨d, .mov false x, none⟩ σ K = qK σ d K (qv ⟨d, .mov false x, none⟩ σ) := rfl
@[go_sem] theorem q1_movG (d : Option Nat) (t : Nat) (want : Bool) (x : IX) : q1 P ⟨d, .mov false x, (some (t, want))⟩ σ K = qK σ d K (qv ⟨d, .mov false x, (some (t, want))⟩ σ) := rfl
@[go_sem] theorem q1_pick (d : Option Nat) (c x y : IX) : q1 P ⟨d, .pick c x y, none⟩ σ K = qK σ d K (qv ⟨d, .pick c x y, none⟩ σ) := rfl
@[go_sem] theorem q1_pickG (d : Option Nat) (t : Nat) (want : Bool) (c x y : IX) : q1 P ⟨d, .pick c x y, (some (t, want))⟩ σ K = qK σ d K (qv ⟨d, .pick c x y, (some (t, want))⟩ σ) := rfl
@[go_sem] theorem q1_build (d : Option Nat) (z : List AV) (ps : List (Nat × Nat × IX)) : q1 P ⟨d, .build z ps, none⟩ σ K = qK σ d K (qv ⟨d, .build z ps, none⟩ σ) := rfl
@[go_sem] theorem q1_buildG (d : Option Nat) (t : Nat) (want : Bool) (z : List AV) (ps : List (Nat × Nat × IX)) : q1 P ⟨d, .build z ps, (some (t, want))⟩ σ K = qK σ d K (qv ⟨d, .build z ps, (some (t, want))⟩ σ) := rfl
@[go_sem] theorem q1_load (d : Option Nat) (n : Nat) (m : Bool) (x : IX) : q1 P ⟨d, .load n m x, none⟩ σ K = qK σ d K (qv ⟨d, .load n m x, none⟩ σ) := rfl
@[go_sem] theorem q1_loadG (d : Option Nat) (t : Nat) (want : Bool) (n : Nat) (m : Bool) (x : IX) : q1 P ⟨d, .load n m x, (some (t, want))⟩ σ K = qK σ d K (qv ⟨d, .load n m x, (some (t, want))⟩ σ) := rfl
@[go_sem] theorem q1_nilCheck (d : Option Nat) (x : IX) : q1 P ⟨d, .nilCheck x, none⟩ σ K = qK σ d K (qv ⟨d, .nilCheck x, none⟩ σ) := rfl
@[go_sem] theorem q1_nilCheckG (d : Option Nat) (t : Nat) (want : Bool) (x : IX) : q1 P ⟨d, .nilCheck x, (some (t, want))⟩ σ K = qK σ d K (qv ⟨d, .nilCheck x, (some (t, want))⟩ σ) := rfl
@[go_sem] theorem q1_bin (d : Option Nat) (b : BinOp) (x y : IX) : q1 P ⟨d, .bin b x y, none⟩ σ K = qK σ d K (qv ⟨d, .bin b x y, none⟩ σ) := rfl
@[go_sem] theorem q1_binG (d : Option Nat) (t : Nat) (want : Bool) (b : BinOp) (x y : IX) : q1 P ⟨d, .bin b x y, (some (t, want))⟩ σ K = qK σ d K (qv ⟨d, .bin b x y, (some (t, want))⟩ σ) := rfl
@[go_sem] theorem q1_eqB (d : Option Nat) (n : Bool) (x y : IX) : q1 P ⟨d, .eqB n x y, none⟩ σ K = qK σ d K (qv ⟨d, .eqB n x y, none⟩ σ) := rfl
@[go_sem] theorem q1_eqBG (d : Option Nat) (t : Nat) (want : Bool) (n : Bool) (x y : IX) : q1 P ⟨d, .eqB n x y, (some (t, want))⟩ σ K = qK σ d K (qv ⟨d, .eqB n x y, (some (t, want))⟩ σ) := rfl
@[go_sem] theorem q1_eqP (d : Option Nat) (n : Bool) (x y : IX) : q1 P ⟨d, .eqP n x y, none⟩ σ K = qK σ d K (qv ⟨d, .eqP n x y, none⟩ σ) := rfl
@[go_sem] theorem q1_eqPG (d : Option Nat) (t : Nat) (want : Bool) (n : Bool) (x y : IX) : q1 P ⟨d, .eqP n x y, (some (t, want))⟩ σ K = qK σ d K (qv ⟨d, .eqP n x y, (some (t, want))⟩ σ) := rfl
@[go_sem] theorem q1_eqS (d : Option Nat) (n : Bool) (x y : IX) : q1 P ⟨d, .eqS n x y, none⟩ σ K = qK σ d K (qv ⟨d, .eqS n x y, none⟩ σ) := rfl
@[go_sem] theorem q1_eqSG (d : Option Nat) (t : Nat) (want : Bool) (n : Bool) (x y : IX) : q1 P ⟨d, .eqS n x y, (some (t, want))⟩ σ K = qK σ d K (qv ⟨d, .eqS n x y, (some (t, want))⟩ σ) := rfl
@[go_sem] theorem q1_un (d : Option Nat) (u : UnOp) (x : IX) : q1 P ⟨d, .un u x, none⟩ σ K = qK σ d K (qv ⟨d, .un u x, none⟩ σ) := rfl
@[go_sem] theorem q1_unG (d : Option Nat) (t : Nat) (want : Bool) (u : UnOp) (x : IX) : q1 P ⟨d, .un u x, (some (t, want))⟩ σ K = qK σ d K (qv ⟨d, .un u x, (some (t, want))⟩ σ) := rfl
@[go_sem] theorem q1_cvtInt (d : Option Nat) (k : IntKind) (x : IX) : q1 P ⟨d, .cvtInt k x, none⟩ σ K = qK σ d K (qv ⟨d, .cvtInt k x, none⟩ σ) := rfl
@[go_sem] theorem q1_cvtIntG (d : Option Nat) (t : Nat) (want : Bool) (k : IntKind) (x : IX) : q1 P ⟨d, .cvtInt k x, (some (t, want))⟩ σ K = qK σ d K (qv ⟨d, .cvtInt k x, (some (t, want))⟩ σ) := rfl
@[go_sem] theorem q1_cvtId (d : Option Nat) (x : IX) : q1 P ⟨d, .cvtId x, none⟩ σ K = qK σ d K (qv ⟨d, .cvtId x, none⟩ σ) := rfl
@[go_sem] theorem q1_cvtIdG (d : Option Nat) (t : Nat) (want : Bool) (x : IX) : q1 P ⟨d, .cvtId x, (some (t, want))⟩ σ K = qK σ d K (qv ⟨d, .cvtId x, (some (t, want))⟩ σ) := rfl
@[go_sem] theorem q1_field (d : Option Nat) (n : Nat) (m : Bool) (f : Nat) (x : IX) : q1 P ⟨d, .field n m f x, none⟩ σ K = qK σ d K (qv ⟨d, .field n m f x, none⟩ σ) := rfl
@[go_sem] theorem q1_fieldG (d : Option Nat) (t : Nat) (want : Bool) (n : Nat) (m : Bool) (f : Nat) (x : IX) : q1 P ⟨d, .field n m f x, (some (t, want))⟩ σ K = qK σ d K (qv ⟨d, .field n m f x, (some (t, want))⟩ σ) := rfl
@[go_sem] theorem q1_index (d : Option Nat) (n : Nat) (m : Bool) (l : Nat) (x i : IX) : q1 P ⟨d, .index n m l x i, none⟩ σ K = qK σ d K (qv ⟨d, .index n m l x i, none⟩ σ) := rfl
@[go_sem] theorem q1_indexG (d : Option Nat) (t : Nat) (want : Bool) (n : Nat) (m : Bool) (l : Nat) (x i : IX) : q1 P ⟨d, .index n m l x i, (some (t, want))⟩ σ K = qK σ d K (qv ⟨d, .index n m l x i, (some (t, want))⟩ σ) := rfl
@[go_sem] theorem q1_sindex (d : Option Nat) (x i : IX) : q1 P ⟨d, .sindex x i, none⟩ σ K = qK σ d K (qv ⟨d, .sindex x i, none⟩ σ) := rfl
@[go_sem] theorem q1_sindexG (d : Option Nat) (t : Nat) (want : Bool) (x i : IX) : q1 P ⟨d, .sindex x i, (some (t, want))⟩ σ K = qK σ d K (qv ⟨d, .sindex x i, (some (t, want))⟩ σ) := rfl
@[go_sem] theorem q1_fieldAddr (d : Option Nat) (f : Nat) (x : IX) : q1 P ⟨d, .fieldAddr f x, none⟩ σ K = qK σ d K (qv ⟨d, .fieldAddr f x, none⟩ σ) := rfl
@[go_sem] theorem q1_fieldAddrG (d : Option Nat) (t : Nat) (want : Bool) (f : Nat) (x : IX) : q1 P ⟨d, .fieldAddr f x, (some (t, want))⟩ σ K = qK σ d K (qv ⟨d, .fieldAddr f x, (some (t, want))⟩ σ) := rfl
@[go_sem] theorem q1_indexAddr (d : Option Nat) (z : List AV) (x i : IX) : q1 P ⟨d, .indexAddr z x i, none⟩ σ K = qK σ d K (qv ⟨d, .indexAddr z x i, none⟩ σ) := rfl
@[go_sem] theorem q1_indexAddrG (d : Option Nat) (t : Nat) (want : Bool) (z : List AV) (x i : IX) : q1 P ⟨d, .indexAddr z x i, (some (t, want))⟩ σ K = qK σ d K (qv ⟨d, .indexAddr z x i, (some (t, want))⟩ σ) := rfl
@[go_sem] theorem q1_aindexAddr (d : Option Nat) (z l : Nat) (x i : IX) : q1 P ⟨d, .aindexAddr z l x i, none⟩ σ K = qK σ d K (qv ⟨d, .aindexAddr z l x i, none⟩ σ) := rfl
@[go_sem] theorem q1_aindexAddrG (d : Option Nat) (t : Nat) (want : Bool) (z l : Nat) (x i : IX) : q1 P ⟨d, .aindexAddr z l x i, (some (t, want))⟩ σ K = qK σ d K (qv ⟨d, .aindexAddr z l x i, (some (t, want))⟩ σ) := rfl
@[go_sem] theorem q1_slice (d : Option Nat) (z : Nat) (x : IX) (lo hi mx : Option IX) : q1 P ⟨d, .slice z x lo hi mx, none⟩ σ K = qK σ d K (qv ⟨d, .slice z x lo hi mx, none⟩ σ) := rfl
@[go_sem] theorem q1_sliceG (d : Option Nat) (t : Nat) (want : Bool) (z : Nat) (x : IX) (lo hi mx : Option IX) : q1 P ⟨d, .slice z x lo hi mx, (some (t, want))⟩ σ K = qK σ d K (qv ⟨d, .slice z x lo hi mx, (some (t, want))⟩ σ) := rfl
@[go_sem] theorem q1_sslice (d : Option Nat) (x : IX) (lo hi : Option IX) : q1 P ⟨d, .sslice x lo hi, none⟩ σ K = qK σ d K (qv ⟨d, .sslice x lo hi, none⟩ σ) := rfl
@[go_sem] theorem q1_ssliceG (d : Option Nat) (t : Nat) (want : Bool) (x : IX) (lo hi : Option IX) : q1 P ⟨d, .sslice x lo hi, (some (t, want))⟩ σ K = qK σ d K (qv ⟨d, .sslice x lo hi, (some (t, want))⟩ σ) := rfl
@[go_sem] theorem q1_extract (d : Option Nat) (x : IX) (k : Nat) : q1 P ⟨d, .extract x k, none⟩ σ K = qK σ d K (qv ⟨d, .extract x k, none⟩ σ) := rfl
@[go_sem] theorem q1_extractG (d : Option Nat) (t : Nat) (want : Bool) (x : IX) (k : Nat) : q1 P ⟨d, .extract x k, (some (t, want))⟩ σ K = qK σ d K (qv ⟨d, .extract x k, (some (t, want))⟩ σ) := rfl
@[go_sem] theorem q1_len (d : Option Nat) (c : Nat) (x : IX) : q1 P ⟨d, .len c x, none⟩ σ K = qK σ d K (qv ⟨d, .len c x, none⟩ σ) := rfl
@[go_sem] theorem q1_lenG (d : Option Nat) (t : Nat) (want : Bool) (c : Nat) (x : IX) : q1 P ⟨d, .len c x, (some (t, want))⟩ σ K = qK σ d K (qv ⟨d, .len c x, (some (t, want))⟩ σ) := rfl
@[go_sem] theorem q1_alen (d : Option Nat) (n : Nat) : q1 P ⟨d, .alen n, none⟩ σ K = qK σ d K (qv ⟨d, .alen n, none⟩ σ) := rfl
@[go_sem] theorem q1_alenG (d : Option Nat) (t : Nat) (want : Bool) (n : Nat) : q1 P ⟨d, .alen n, (some (t, want))⟩ σ K = qK σ d K (qv ⟨d, .alen n, (some (t, want))⟩ σ) := rfl
@[go_sem] theorem q1_minmax (d : Option Nat) (m : Bool) (xs : List IX) : q1 P ⟨d, .minmax m xs, none⟩ σ K = qK σ d K (qv ⟨d, .minmax m xs, none⟩ σ) := rfl
@[go_sem] theorem q1_minmaxG (d : Option Nat) (t : Nat) (want : Bool) (m : Bool) (xs : List IX) : q1 P ⟨d, .minmax m xs, (some (t, want))⟩ σ K = qK σ d K (qv ⟨d, .minmax m xs, (some (t, want))⟩ σ) := rfl
@[go_sem] theorem q1_makeFn (d : Option Nat) (f : Nat) (x y : List IX) : q1 P ⟨d, .makeFn f x y, none⟩ σ K = qK σ d K (qv ⟨d, .makeFn f x y, none⟩ σ) := rfl
@[go_sem] theorem q1_makeFnG (d : Option Nat) (t : Nat) (want : Bool) (f : Nat) (x y : List IX) : q1 P ⟨d, .makeFn f x y, (some (t, want))⟩ σ K = qK σ d K (qv ⟨d, .makeFn f x y, (some (t, want))⟩ σ) := rfl
@[go_sem] theorem q1_movT (d : Option Nat) (x : IX) : q1 P ⟨d, .mov true x, none⟩ σ K = movW σ x d K (σ.x x) := rfl
@[go_sem] theorem q1_call (d : Option Nat) (f : Nat) (args : List IX) : q1 P ⟨d, .call f args, none⟩ σ K = qCall P f σ d K (argsV (xg true σ) args) := rfl
@[go_sem] theorem q1_callG (d : Option Nat) (f : Nat) (args : List IX) (t : Nat) (want : Bool) : q1 P ⟨d, .call f args, some (t, want)⟩ σ K = qCallG P f args want σ d K (look σ.e t) := rfl
@[go_sem] theorem q1_cvtStr (d : Option Nat) (x : IX) : q1 P ⟨d, .cvtStr x, none⟩ σ K = qK σ d K (qv ⟨d, .cvtStr x, none⟩ σ) := rfl
@[go_sem] theorem q1_cvtStrG (d : Option Nat) (t : Nat) (want : Bool) (x : IX) : q1 P ⟨d, .cvtStr x, (some (t, want))⟩ σ K = qK σ d K (qv ⟨d, .cvtStr x, (some (t, want))⟩ σ) := rfl
@[go_sem] theorem q1_cvtBytes (d : Option Nat) (x : IX) (g : Option (Nat × Bool)) : q1 P ⟨d, .cvtBytes x, g⟩ σ K = qK σ d K (qeO ⟨d, .cvtBytes x, g⟩ σ) := rfl
@[go_sem] theorem q1_buildSl (d : Option Nat) (sz n : Nat) (z : List AV) (ps : List (Nat × Nat × IX)) (g : Option (Nat × Bool)) : q1 P ⟨d, .buildSl sz n z ps, g⟩ σ K = qK σ d K (qeO ⟨d, .buildSl sz n z ps, g⟩ σ) := rfl
@[go_sem] theorem q1_lookup (d : Option Nat) (kk : KeyK) (z : AV) (ok : Bool) (x k : IX) (g : Option (Nat × Bool)) : q1 P ⟨d, .lookup kk z ok x k, g⟩ σ K = qK σ d K (qeO ⟨d, .lookup kk z ok x k, g⟩ σ) := rfl
@[go_sem] theorem q1_cvtRow (d : Option Nat) (x : IX) (g : Option (Nat × Bool)) : q1 P ⟨d, .cvtRow x, g⟩ σ K = qK σ d K (qeO ⟨d, .cvtRow x, g⟩ σ) := rfl
@[go_sem] theorem q1_loadR (d : Option Nat) (z : List AV) (m : Bool) (x : IX) : q1 P ⟨d, .loadR z m x, none⟩ σ K = qK σ d K (qv ⟨d, .loadR z m x, none⟩ σ) := rfl
@[go_sem] theorem q1_loadRG (d : Option Nat) (t : Nat) (want : Bool) (z : List AV) (m : Bool) (x : IX) : q1 P ⟨d, .loadR z m x, (some (t, want))⟩ σ K = qK σ d K (qv ⟨d, .loadR z m x, (some (t, want))⟩ σ) := rfl
@[go_sem] theorem pv_loadR' (f : IX → AV) (σ : St) (z : List AV) (m : Bool) (x : IX) : pv (.loadR z m x) f σ = loadP z m σ.s (f x) := rfl
@[go_sem] theorem pvn_lookup' (f : IX → AV) (σ : St) (kk : KeyK) (z : AV) (ok : Bool) (x k : IX) : pv (.lookup kk z ok x k) f σ = .no := rfl
@[go_sem] theorem pvn_cvtRow' (f : IX → AV) (σ : St) (x : IX) : pv (.cvtRow x) f σ = .no := rfl
@[go_sem] theorem pvn_mapUpdate' (f : IX → AV) (σ : St) (kk : KeyK) (x k v : IX) : pv (.mapUpdate kk x k v) f σ = .no := rfl
@[go_sem] theorem iwp_lookup (d : Option Nat) (kk : KeyK) (z : AV) (ok : Bool) (x k : IX) : iwp P (.lookup kk z ok x k) d σ K = prK σ d K (lookupV kk z ok σ.s (xg true σ k) (xg true σ x)) := rfl
@[go_sem] theorem iwp_cvtRow (d : Option Nat) (x : IX) : iwp P (.cvtRow x) d σ K = prK σ d K (rowV (xg true σ x)) := rfl
@[go_sem] theorem iwp_mapUpdate (d : Option Nat) (kk : KeyK) (x k v : IX) : iwp P (.mapUpdate kk x k v) d σ K = mapUpdW kk σ (xg true σ k) (xg true σ v) d K (xg true σ x) := rfl
@[go_sem] theorem q1_movTup (d : Option Nat) (x : IX) (g : Option (Nat × Bool)) : q1 P ⟨d, .movT x, g⟩ σ K = qK σ d K (qeO ⟨d, .movT x, g⟩ σ) := rfl
@[go_sem] theorem pvn_movT' (f : IX → AV) (σ : St) (x : IX) : pv (.movT x) f σ = .no := rfl
@[go_sem] theorem iwp_movT (d : Option Nat) (x : IX) : iwp P (.movT x) d σ K = prK σ d K (tupV (xg true σ x)) := rfl
@[go_sem] theorem qe_movT (f : IX → AV) (s : Store) (x : IX) : qe f s (.movT x) = tupV (f x) := rfl
@[go_sem] theorem qeO_none (d : Option Nat) (o : IOp) : qeO ⟨d, o, none⟩ σ = qe (xg true σ) σ.s o := rfl
@[go_sem] theorem qeO_some (d : Option Nat) (o : IOp) (t : Nat) (want : Bool) : qeO ⟨d, o, some (t, want)⟩ σ = qeG o want σ (look σ.e t) := rfl
@[go_sem] theorem qeG_bool (o : IOp) (want b : Bool) : qeG o want σ (.bool b) = wPR (b == want) (qe (xg (b == want) σ) σ.s o) := rfl
@[go_sem] theorem qe_bytes (f : IX → AV) (s : Store) (x : IX) : qe f s (.cvtBytes x) = bytesPR (f x) := rfl
@[go_sem] theorem qe_build (f : IX → AV) (s : Store) (sz n : Nat) (z : List AV) (ps : List (Nat × Nat × IX)) : qe f s (.buildSl sz n z ps) = rowPR sz n (fill f z ps) := rfl
@[go_sem] theorem qe_lookup (f : IX → AV) (s : Store) (kk : KeyK) (z : AV) (ok : Bool) (x k : IX) : qe f s (.lookup kk z ok x k) = lookupV kk z ok s (f k) (f x) := rfl
@[go_sem] theorem qe_row (f : IX → AV) (s : Store) (x : IX) : qe f s (.cvtRow x) = rowV (f x) := rfl
@[go_sem] theorem rowV_sl (n : Nat) (cs : List AV) : rowV (.sl true 1 (n + 1) cs) = .tot (.sl false 1 (n + 1) cs) := rfl
attribute [go_sem] tupV.eq_1 loadP.eq_1 loadS.eq_1 lookupV.eq_1 lookupV.eq_2 prK.eq_1 prK.eq_2 prK.eq_3
attribute [go_sem] bytesPR.eq_1 rowPR.eq_1
@[go_sem] theorem qv_none (d : Option Nat) (o : IOp) : qv ⟨d, o, none⟩ σ = pv o (xg true σ) σ := rfl
@[go_sem] theorem qv_some (d : Option Nat) (o : IOp) (t : Nat) (want : Bool) : qv ⟨d, o, some (t, want)⟩ σ = qvG o want σ (look σ.e t) := rfl
@[go_sem] theorem slotFree_none : slotFree σ none = true := rfl
@[go_sem] theorem slotFree_some (d : Nat) : slotFree σ (some d) = notLoc (look σ.e d) := rfl
@[go_sem] theorem notLoc_when (b : Bool) (a : AV) : notLoc (.when b a) = true := rfl
@[go_sem] theorem notLoc_lp (b o : Nat) : notLoc (.lp b o) = true := rfl
@[go_sem] theorem notLoc_undef  : notLoc (.undef ) = true := rfl
@[go_sem] theorem notLoc_bool (b : Bool) : notLoc (.bool b) = true := rfl
@[go_sem] theorem notLoc_int (k : IntKind) (n : Int) : notLoc (.int k n) = true := rfl
@[go_sem] theorem notLoc_str (s : List UInt8) : notLoc (.str s) = true := rfl
@[go_sem] theorem notLoc_nilp  : notLoc (.nilp ) = true := rfl
@[go_sem] theorem notLoc_ref (b o : Nat) : notLoc (.ref b o) = true := rfl
@[go_sem] theorem notLoc_sp (cs : List AV) : notLoc (.sp cs) = true := rfl
@[go_sem] theorem notLoc_sl (o : Bool) (z n : Nat) (cs : List AV) : notLoc (.sl o z n cs) = true := rfl
@[go_sem] theorem notLoc_arr (b o l c : Nat) : notLoc (.arr b o l c) = true := rfl
@[go_sem] theorem notLoc_agg (cs : List AV) : notLoc (.agg cs) = true := rfl
@[go_sem] theorem notLoc_tup (cs : List AV) : notLoc (.tup cs) = true := rfl
@[go_sem] theorem notLoc_fn (f : Nat) (x y : List AV) : notLoc (.fn f x y) = true := rfl
@[go_sem] theorem notLoc_nilf  : notLoc (.nilf ) = true := rfl
@[go_sem] theorem notLoc_mp (b : Nat) : notLoc (.mp b) = true := rfl
@[go_sem] theorem notLoc_nilm  : notLoc (.nilm ) = true := rfl
attribute [go_sem] wPR.eq_1 wPR.eq_2 wPR.eq_3 qvG.eq_1 qK.eq_1 qK.eq_2 qK.eq_3 qCall.eq_1 qCallG.eq_1 qStr.eq_1
end
@[go_sem] theorem dropLp_lp (b o : Nat) : dropLp (.lp b o) = .undef := rfl
@[go_sem] theorem dropLp_when (b : Bool) (a : AV) : dropLp (.when b a) = .undef := rfl
@[go_sem] theorem dropLp_undef  : dropLp (.undef ) = .undef  := rfl
@[go_sem] theorem dropLp_bool (b : Bool) : dropLp (.bool b) = .bool b := rfl
@[go_sem] theorem dropLp_int (k : IntKind) (n : Int) : dropLp (.int k n) = .int k n := rfl
@[go_sem] theorem dropLp_str (s : List UInt8) : dropLp (.str s) = .str s := rfl
@[go_sem] theorem dropLp_nilp  : dropLp (.nilp ) = .nilp  := rfl
@[go_sem] theorem dropLp_ref (b o : Nat) : dropLp (.ref b o) = .ref b o := rfl
@[go_sem] theorem dropLp_sp (cs : List AV) : dropLp (.sp cs) = .sp cs := rfl
@[go_sem] theorem dropLp_loc (cs : List AV) : dropLp (.loc cs) = .loc cs := rfl
@[go_sem] theorem dropLp_sl (o : Bool) (z n : Nat) (cs : List AV) : dropLp (.sl o z n cs) = .sl o z n cs := rfl
@[go_sem] theorem dropLp_arr (b o l c : Nat) : dropLp (.arr b o l c) = .arr b o l c := rfl
@[go_sem] theorem dropLp_agg (cs : List AV) : dropLp (.agg cs) = .agg cs := rfl
@[go_sem] theorem dropLp_tup (cs : List AV) : dropLp (.tup cs) = .tup cs := rfl
@[go_sem] theorem dropLp_fn (f : Nat) (x y : List AV) : dropLp (.fn f x y) = .fn f x y := rfl
@[go_sem] theorem dropLp_nilf  : dropLp (.nilf ) = .nilf  := rfl
@[go_sem] theorem dropLp_mp (b : Nat) : dropLp (.mp b) = .mp b := rfl
@[go_sem] theorem dropLp_nilm  : dropLp (.nilm ) = .nilm  := rfl
@[go_sem] theorem cond_t {α : Type} (a b : α) : (bif true then a else b) = a := rfl
@[go_sem] theorem cond_f {α : Type} (a b : α) : (bif false then a else b) = b := rfl
@[go_sem] theorem condp_t (a b : Prop) : (bif true then a else b) = a := rfl
@[go_sem] theorem condp_f (a b : Prop) : (bif false then a else b) = b := rfl
attribute [go_sem] nxt.eq_1 nxt.eq_2 nxt.eq_3 nxg.eq_1 nxg.eq_2 nxg.eq_3 gsel.eq_1 gsel.eq_2 gsel.eq_3 iwp.eq_1 iwp.eq_2 iwp.eq_3 iwp.eq_4 iwp.eq_5 iwp.eq_6 iwp.eq_7 iwp.eq_8 iwp.eq_9 iwp.eq_10 iwp.eq_11 iwp.eq_12 iwp.eq_13 iwp.eq_14 iwp.eq_15 iwp.eq_16 pickB.eq_1 pickV.eq_1 unV.eq_1 unV.eq_2 cvtIntV.eq_1 cvtIdV.eq_1 loadV.eq_1 loadV.eq_2 fieldV.eq_1 indexV.eq_1 sindexV.eq_1 nilCheckV.eq_1 locA.eq_1 minK.eq_1 fieldAddrV.eq_1 fieldAddrV.eq_2 fieldAddrV.eq_3 fieldAddrV.eq_4 indexAddrV.eq_1 indexAddrV.eq_2 aindexAddrV.eq_1 aindexAddrV.eq_2 aindexAddrV.eq_3 aindexAddrV.eq_4 sliceSl.eq_1 sliceArr.eq_1 sliceV.eq_1 sliceV.eq_2 sliceStr.eq_1 sliceStrV.eq_1 lenMap.eq_1 lenV.eq_1 lenV.eq_2 lenV.eq_3 lenV.eq_4 lenV.eq_5 minmaxV.eq_1 extractO.eq_1 extractV.eq_1 buildV.eq_1 minL.eq_1 minL.eq_2 aggOf.eq_1 aggOf.eq_2 rdLoc.eq_1 rdSO.eq_1 rd.eq_1 rd.eq_2 rd.eq_3 rd.eq_4 lpFree.eq_1 lpFree.eq_2 stK.eq_1 buildSlW.eq_1 appendW.eq_1 appendW.eq_2 cvtStrW.eq_1 cvtBytesW.eq_1 makeSlW.eq_1 makeOwW.eq_1 okV.eq_1 okV.eq_2 callvW.eq_1 argC.eq_1 argsV.eq_1 argsV.eq_2 makeFnV.eq_1 callW.eq_1 callvA.eq_1 retV.eq_1 rsOK.eq_1 wrL.eq_1 wrS.eq_1 wrLoc.eq_1 wrSO.eq_1 wrIx.eq_1 wrSt.eq_1 wrSt.eq_2 wrSt.eq_3 binV.eq_1 binV.eq_2 eqBV.eq_1 eqPV.eq_1 eqPV.eq_2 eqPV.eq_3 eqSV.eq_1 eqSV.eq_2 binI.eq_3 binI.eq_4 binI.eq_5 binI.eq_6 binI.eq_7 binI.eq_12 binI.eq_13 binI.eq_14 binI.eq_15 binI.eq_16 binI.eq_17 binS.eq_1 binS.eq_2 binS.eq_3 binS.eq_4 binS.eq_5 binS.eq_6 binS.eq_7 kk pv.eq_1 pv.eq_2 pv.eq_3 pv.eq_4 pv.eq_5 pv.eq_6 pv.eq_7 pv.eq_8 pv.eq_9 pv.eq_10 pv.eq_11 pv.eq_12 pv.eq_13 pv.eq_14 pv.eq_15 pv.eq_16 pv.eq_17 pv.eq_18 pv.eq_19 pv.eq_20 pv.eq_21 pv.eq_22 pv.eq_23 pv.eq_24 pv.eq_25 fill.eq_1 fill.eq_2
attribute [go_sem] ckV ckP xg St.keep St.keepV vwIf rdCells movV movW boxLW boxSW storeW callK St.drain
attribute [go_sem] bne_self_eq_false Bool.bne_true Bool.bne_false implies_true decide_true decide_false Bool.true_and Bool.and_true Bool.false_and Bool.and_false Bool.not_true Bool.not_false Bool.false_eq_true true_and List.length_cons List.length_nil List.map_cons List.map_nil List.all_nil List.all_cons List.drop_zero List.drop_succ_cons List.take_zero List.take_succ_cons Nat.zero_add List.cons_append List.nil_append List.getElem?_cons_zero List.getElem?_cons_succ
end
end Go.AB
