/- A part. -/
import Derived.KernelRfl
import Derived.Orders
import Derived.Laws.Sem
set_option linter.defProp false
set_option linter.unusedSimpArgs false
set_option linter.unusedVariables false
section
namespace Go.AB
open Go
section
variable{P:Prop}
theorem AT(h:P:=by omega):P:=h
theorem A_(h:P:=by grind):P:=h
theorem BY(h:P:=by simp):P:=h
theorem By(h:P:=by kernel_rfl):P:=h
theorem B_(h:P:=by decide):P:=h
theorem C_(h:P:=by simp;omega):P:=h
theorem DO(h:P:=by simp -implicitDefEqProofs only[go_sem,seval]<;>simp only[al]):P:=h
theorem Dd(h:P:=by simp -implicitDefEqProofs only[go_sem,seval,af ab,af ab.symm,set_comm ab]<;>simp only[al]):P:=h
theorem D_(h:P:=by rfl):P:=h
theorem E_(h:P:=by rw[ao (by omega) (by omega)];omega):P:=h
theorem F_(h:P:=by cases h):P:=h
theorem GU(h:P:=by first|rfl|simp):P:=h
theorem G_(h:P:=by simpa using he):P:=h
theorem H_(h:P:=by simp_all):P:=h
theorem IF(h:P:=by grind [bq]):P:=h
theorem IN(h:P:=by cases d<;>rfl):P:=h
theorem I_(h:P:=by simpa using hc):P:=h
theorem J_(h:P:=by simpa using h):P:=h
theorem K_(h:P:=by rw[hl];omega):P:=h
theorem Lg(h:P:=by simp at hj):P:=h
theorem Li(h:P:=by simpa using h0):P:=h
theorem L_(h:P:=by assumption):P:=h
theorem M_(h:P:=by rw[List.length_take];omega):P:=h
theorem NK(h:P:=by simp at hc):P:=h
theorem N_(h:P:=by rw[List.length_drop];omega):P:=h
theorem O_(h:P:=by cases hcs):P:=h
theorem PE(h:P:=by simp[eT]):P:=h
theorem P_(h:P:=by simp -implicitDefEqProofs only[go_sem,seval]):P:=h
theorem Q7(h:P:=by simp -implicitDefEqProofs only[go_sem,seval,af cF,af cF.symm,set_comm cF.symm]<;>simp only[al]):P:=h
theorem Q_(h:P:=by simpa using h1):P:=h
theorem R_(h:P:=by cases h;rfl):P:=h
theorem S_(h:P:=by simp[r1]):P:=h
theorem T_(h:P:=by rw[q2];simp):P:=h
theorem Ux(h:P:=by simpa using h2):P:=h
theorem Uy(h:P:=by rw[ez];rfl):P:=h
theorem U_(h:P:=by first|exact Bc _ _ _ _ _|exact yK _ _ _ _|exact yL _ _ _):P:=h
theorem V_(h:P:=by simp at hx):P:=h
theorem W_(h:P:=by rw[hb];simp):P:=h
theorem X5(h:P:=by simpa using hx):P:=h
theorem X_(h:P:=by simp[eT,hy]):P:=h
theorem Y_(h:P:=by simp[ae.set,sN1]):P:=h
theorem Z_(h:P:=by simp[St.put,bj]):P:=h
theorem aT(h:P:=by subst hk;simp[execOp,e1,e2,eqGuard,binOp,Op.intCmp]):P:=h
theorem bY(h:P:=by simp[views]):P:=h
theorem c_(h:P:=by simp[G',hb']):P:=h
theorem d_(h:P:=by simp[Builtin.firstCells]):P:=h
theorem f_(h:P:=by cases e):P:=h
theorem g_(h:P:=by simpa using hlt):P:=h
theorem h_(h:P:=by rw[ao (by omega) (by omega)];rfl):P:=h
theorem iF(h:P:=by unfold fI;simp;omega):P:=h
theorem iN(h:P:=by rw[eW];rfl):P:=h
theorem i_(h:P:=by unfold room;omega):P:=h
theorem j_(h:P:=by rw[hsz];decide):P:=h
theorem k_(h:P:=by simp -implicitDefEqProofs only[go_sem,seval,af bw,af bw.symm,set_comm bw,af cw,af cw.symm,set_comm cw,af bz,af bz.symm,set_comm bz,mY]<;>simp only[al]):P:=h
theorem l7(h:P:=by obtain⟨_,_,_,hf⟩:=hat;exact hf):P:=h
theorem o_(h:P:=by simpa using eI.qt):P:=h
theorem p_(h:P:=by rw[hc];simp):P:=h
theorem q_(h:P:=by grind [ae.set]):P:=h
theorem r_(h:P:=by cases hx):P:=h
theorem sW(h:P:=by simpa using hne):P:=h
theorem s_(h:P:=by rw[Nat.zero_add];exact hr):P:=h
theorem t_(h:P:=by rw[h7];exact aY):P:=h
theorem u_(h:P:=by rw[h7,iX h2];exact Sub.refl s):P:=h
theorem w_(h:P:=by rw[h2];exact Sub.refl s):P:=h
theorem x_(h:P:=by decide+kernel):P:=h
theorem y_(h:P:=by simp[he]):P:=h
theorem z_(h:P:=by simp at hc;omega):P:=h
theorem Ω(h:P:=by simp[ix]):P:=h
theorem Ψ(h:P:=by cases b<;>rfl):P:=h
theorem Φ(h:P:=by subst hk;simp[execOp,e1,e2,eqGuard,binOp,Op.intBits]):P:=h
theorem Ξ(h:P:=by cases d<;>exact h1):P:=h
theorem Δ(h:P:=by simpa[World.setRow]using hb'):P:=h
theorem Θ(h:P:=by have:=(List.getElem?_eq_some_iff.1 hj).1;omega):P:=h
theorem Γ(h:P:=by cases d<;>simp[BN]):P:=h
theorem ψ(h:P:=by simpa using eI.len):P:=h
theorem ξ(h:P:=by grind [laid]):P:=h
theorem θ(h:P:=by rw[u1,hcl]):P:=h
theorem ζ(h:P:=by rw[u1,hlen]):P:=h
theorem η(h:P:=by rw[hl];rfl):P:=h
theorem υ(h:P:=by unfold flat;simp):P:=h
theorem χ(h:P:=by rw[hσ];exact aY):P:=h
theorem ω(h:P:=by unfold yk;simp only[h]):P:=h
theorem Xa0(h:P:=by rw[k4];omega):P:=h
theorem Xa1(h:P:=by rw[hl5];omega):P:=h
theorem Xa2(h:P:=by simpa using hx2):P:=h
theorem Xa3(h:P:=by rw[List.length_take,List.length_drop];omega):P:=h
theorem Xa4(h:P:=by simpa using hk):P:=h
theorem Xa5(h:P:=by rw[List.drop_eq_nil_iff];simp;omega):P:=h
theorem Xa6(h:P:=by rw[<-hQ];exact⟨s2,h1,h2⟩):P:=h
theorem Xa7(h:P:=by rw[eW,Nat.zero_add];rfl):P:=h
theorem Xa8(h:P:=by rw[fl];omega):P:=h
theorem Xa9(h:P:=by simpa using htm):P:=h
theorem Xb0(h:P:=by rw[hle];omega):P:=h
theorem Xb1(h:P:=by cases z<;>exact hz2):P:=h
theorem Xb2(h:P:=by simp at h;omega):P:=h
theorem Xb3(h:P:=by show du ⟨_,b,aC ((j:Int)+1),_⟩ c=_;rw[hw];exact ym):P:=h
theorem Xb4(h:P:=by cases h:Av x<;>simp_all):P:=h
theorem Xb5(h:P:=by simp at h):P:=h
theorem Xb6(h:P:=by cases h:gone x<;>simp_all):P:=h
theorem Xb7(h:P:=by simpa using h6):P:=h
theorem Xb8(h:P:=by simpa using hv):P:=h
theorem Xb9(h:P:=by subst hk;simp[execOp,e1,e2,eqGuard,binOp,Op.intArith,ke]):P:=h
theorem Xc0(h:P:=by simp[Op.equalIn,run_underlying htu]):P:=h
theorem Xc1(h:P:=by cases ne<;>exact .bool _):P:=h
theorem Xc2(h:P:=by rw[h.size];exact hin):P:=h
theorem Xc3(h:P:=by cases d<;>exact this):P:=h
theorem Xc4(h:P:=by rw[hg];exact List.mem_cons_self):P:=h
theorem Xc5(h:P:=by rw[hg.size];exact r1):P:=h
theorem Xc6(h:P:=by rw[hs];exact hf):P:=h
theorem Xc7(h:P:=by rw[<-hL];simp;omega):P:=h
theorem Xc8(h:P:=by rw[<-hAB];simp):P:=h
theorem Xc9(h:P:=by have:=of_decide_eq_true hx;omega):P:=h
theorem Xd0(h:P:=by have:=of_decide_eq_false hx;omega):P:=h
theorem Xd1(h:P:=by first|(simp -implicitDefEqProofs only[go_sem,seval,hgG0];done)|(simp -implicitDefEqProofs only[go_sem,seval,hgG1];done)|(simp -implicitDefEqProofs only[go_sem,seval,hgG2];done)|(simp -implicitDefEqProofs only[go_sem,seval];done)):P:=h
theorem Xd2(h:P:=by rw[hbd,hdv];rfl):P:=h
theorem Xd3(h:P:=by have:=eq_of_beq h;omega):P:=h
theorem Xd4(h:P:=by rw[af hne.symm];exact h1):P:=h
theorem Xd5(h:P:=by rw[gh hk];exact List.getElem_mem _):P:=h
theorem Xd6(h:P:=by rw[h2.2.2.2.2.1,hto]):P:=h
theorem Xd7(h:P:=by unfold lG;rw[if_neg (by omega)]):P:=h
theorem Xd8(h:P:=by unfold Sh;grind):P:=h
theorem Xd9(h:P:=by rw[ok_none];exact fun h=>h):P:=h
theorem Xe0(h:P:=by simp -implicitDefEqProofs only[go_sem,seval,af cF,af cF.symm,set_comm cF.symm,af nN3N1,af nN3N1.symm,set_comm nN3N1.symm,af nN3N2,af nN3N2.symm,set_comm nN3N2.symm]<;>simp only[al]):P:=h
theorem Xe1(h:P:=by simp[ae.set,sN2]):P:=h
theorem Xe2(h:P:=by show none.isSome=true↔_;simp):P:=h
theorem Xe3(h:P:=by simpa using c):P:=h
variable{Q:Prop}
theorem Xe4(h:Q)(i:Q->P:=by intro h;simp -implicitDefEqProofs only[go_sem,seval];exact h):P:=i h
theorem Xe5{A:Prop}(a:A)(h:Q)(i:A->Q->P:=by intro a h;simp -implicitDefEqProofs only[go_sem,seval,bL,a];exact h):P:=i a h
theorem Xe6{A B C D E F G:Prop}(a:A)(b:B)(c:C)(d:D)(e:E)(f:F)(g:G)(h:Q)(i:A->B->C->D->E->F->G->Q->P:=by intro a b c d e f g h;simp -implicitDefEqProofs only[go_sem,seval,bL,a,b,c,d,e,f,g];exact h):P:=i a b c d e f g h
theorem Xe7(h:Q)(i:Q->P:=by intro h;simp -implicitDefEqProofs only[go_sem,seval,bL];exact h):P:=i h
theorem Xe8{A B C D E F:Prop}(a:A)(b:B)(c:C)(d:D)(e:E)(f:F)(h:Q)(i:A->B->C->D->E->F->Q->P:=by intro a b c d e f h;simp -implicitDefEqProofs only[go_sem,seval,bL,a,b,c,d,e,f];exact h):P:=i a b c d e f h
theorem Xe9{A B C D E F G H I:Prop}(a:A)(b:B)(c:C)(d:D)(e:E)(f:F)(g:G)(k:H)(l:I)(h:Q)(i:A->B->C->D->E->F->G->H->I->Q->P:=by intro a b c d e f g k l h;simp -implicitDefEqProofs only[go_sem,seval,bL,a,b,c,d,e,f,g,k,l];exact h):P:=i a b c d e f g k l h
theorem Xf0{A B:Prop}(a:A)(b:B)(h:Q)(i:A->B->Q->P:=by intro a b h;simp -implicitDefEqProofs only[go_sem,seval,a,b];exact h):P:=i a b h
theorem Xf1{A B:Prop}(a:A)(b:B)(h:Q)(i:A->B->Q->P:=by intro a b h;simp -implicitDefEqProofs only[go_sem,seval,bL,a,b];exact h):P:=i a b h
theorem Xf2{A B C D E F G H:Prop}(a:A)(b:B)(c:C)(d:D)(e:E)(f:F)(g:G)(k:H)(h:Q)(i:A->B->C->D->E->F->G->H->Q->P:=by intro a b c d e f g k h;simp -implicitDefEqProofs only[go_sem,seval,bL,a,b,c,d,e,f,g,k];exact h):P:=i a b c d e f g k h
theorem Xf3{A B C:Prop}(a:A)(b:B)(c:C)(h:Q)(i:A->B->C->Q->P:=by intro a b c h;simp -implicitDefEqProofs only[go_sem,seval,bL,a,b,c];exact h):P:=i a b c h
theorem Xf4{A:Prop}(a:A)(h:Q)(i:A->Q->P:=by intro a h;simp -implicitDefEqProofs only[go_sem,Nat.reduceBEq,Nat.reduceAdd,Nat.reduceMul,Nat.reduceLeDiff,Nat.reduceEqDiff,Nat.reduceBNe,UInt8.reduceToNat,UInt32.reduceToNat,a];exact h):P:=i a h
theorem Xf5{A B:Prop}(a:A)(b:B)(h:Q)(i:A->B->Q->P:=by intro a b h;simp -implicitDefEqProofs only[go_sem,Nat.reduceBEq,Nat.reduceAdd,Nat.reduceMul,Nat.reduceLeDiff,Nat.reduceEqDiff,Nat.reduceBNe,UInt8.reduceToNat,UInt32.reduceToNat,set_set,a,b];exact h):P:=i a b h
theorem Xf6(h:Q)(i:Q->P:=by intro h;simp -implicitDefEqProofs only[go_sem,Nat.reduceBEq,Nat.reduceAdd,Nat.reduceMul,Nat.reduceLeDiff,Nat.reduceEqDiff,Nat.reduceBNe,UInt8.reduceToNat,UInt32.reduceToNat];exact h):P:=i h
theorem Xf7{A:Prop}(a:A)(h:Q)(i:A->Q->P:=by intro a h;simp -implicitDefEqProofs only[go_sem,Nat.reduceBEq,Nat.reduceAdd,Nat.reduceMul,Nat.reduceLeDiff,Nat.reduceEqDiff,Nat.reduceBNe,UInt8.reduceToNat,UInt32.reduceToNat,set_set,a];exact h):P:=i a h
theorem Xf8(i:P:=by simp -implicitDefEqProofs only[go_sem,seval]):P:=i 
theorem Xf9(h:Q)(i:Q->P:=by intro h;(conv in dec _=>reduce);exact h):P:=i h
theorem Xg0{A B C D:Prop}(a:A)(b:B)(c:C)(d:D)(h:Q)(i:A->B->C->D->Q->P:=by intro a b c d h;simp -implicitDefEqProofs only[go_sem,Nat.reduceBEq,Nat.reduceAdd,Nat.reduceMul,Nat.reduceLeDiff,Nat.reduceEqDiff,Nat.reduceBNe,UInt8.reduceToNat,UInt32.reduceToNat,bL,a,b,c,d];exact h):P:=i a b c d h
theorem Xg1{A B C D E:Prop}(a:A)(b:B)(c:C)(d:D)(e:E)(h:Q)(i:A->B->C->D->E->Q->P:=by intro a b c d e h;simp -implicitDefEqProofs only[go_sem,seval,bL,a,b,c,d,e];exact h):P:=i a b c d e h
theorem Xg2{A:Prop}(a:A)(h:Q)(i:A->Q->P:=by intro a h;simp -implicitDefEqProofs only[go_sem,seval,a];exact h):P:=i a h
theorem Xg3{A B C:Prop}(a:A)(b:B)(c:C)(h:Q)(i:A->B->C->Q->P:=by intro a b c h;simp -implicitDefEqProofs only[go_sem,seval,bL,Bool.true_or,Bool.or_true,Bool.or_false,a,b,c];exact h):P:=i a b c h
theorem Xg4{A B C D E:Prop}(a:A)(b:B)(c:C)(d:D)(e:E)(h:Q)(i:A->B->C->D->E->Q->P:=by intro a b c d e h;simp -implicitDefEqProofs only[go_sem,seval,bL,Bool.true_or,Bool.or_true,Bool.or_false,a,b,c,d,e];exact h):P:=i a b c d e h
theorem Xg5{A B:Prop}(a:A)(b:B)(h:Q)(i:A->B->Q->P:=by intro a b h;simp -implicitDefEqProofs only[go_sem,seval,bL,Bool.true_or,Bool.or_true,Bool.or_false,a,b];exact h):P:=i a b h
theorem Xg6{A:Prop}(a:A)(h:Q)(i:A->Q->P:=by intro a h;simp -implicitDefEqProofs only[go_sem,Nat.reduceBEq,Nat.reduceAdd,Nat.reduceMul,Nat.reduceLeDiff,Nat.reduceEqDiff,Nat.reduceBNe,UInt8.reduceToNat,UInt32.reduceToNat,bL,a];exact h):P:=i a h
theorem Xg7{A B C D:Prop}(a:A)(b:B)(c:C)(d:D)(h:Q)(i:A->B->C->D->Q->P:=by intro a b c d h;simp -implicitDefEqProofs only[go_sem,seval,a,b,c,d];exact h):P:=i a b c d h
theorem Xg8{A B C:Prop}(a:A)(b:B)(c:C)(h:Q)(i:A->B->C->Q->P:=by intro a b c h;simp -implicitDefEqProofs only[go_sem,seval,a,b,c];exact h):P:=i a b c h
theorem Xg9{A B C D:Prop}(a:A)(b:B)(c:C)(d:D)(h:Q)(i:A->B->C->D->Q->P:=by intro a b c d h;simp -implicitDefEqProofs only[go_sem,seval,bL,a,b,c,d];exact h):P:=i a b c d h
theorem Xh0(h:Q)(i:Q->P:=by intro h;simp -implicitDefEqProofs only[go_sem,Nat.reduceBEq,Nat.reduceAdd,Nat.reduceMul,Nat.reduceLeDiff,Nat.reduceEqDiff,Nat.reduceBNe,UInt8.reduceToNat,UInt32.reduceToNat,bL];exact h):P:=i h
theorem Xh1{A:Prop}(a:A)(h:Q)(i:A->Q->P:=by intro a h;simp -implicitDefEqProofs only[go_sem,seval,set_set,bL,a];exact h):P:=i a h
theorem Xh2{A B:Prop}(a:A)(b:B)(h:Q)(i:A->B->Q->P:=by intro a b h;simp -implicitDefEqProofs only[go_sem,seval,Bool.or_true,bL,a,b];exact h):P:=i a b h
theorem Xh3{A B C:Prop}(a:A)(b:B)(c:C)(h:Q)(i:A->B->C->Q->P:=by intro a b c h;simp -implicitDefEqProofs only[go_sem,Nat.reduceBEq,Nat.reduceAdd,Nat.reduceMul,Nat.reduceLeDiff,Nat.reduceEqDiff,Nat.reduceBNe,UInt8.reduceToNat,UInt32.reduceToNat,bL,a,b,c];exact h):P:=i a b c h
theorem Xh4{A B:Prop}(a:A)(b:B)(h:Q)(i:A->B->Q->P:=by intro a b h;simp -implicitDefEqProofs only[go_sem,Nat.reduceBEq,Nat.reduceAdd,Nat.reduceMul,Nat.reduceLeDiff,Nat.reduceEqDiff,Nat.reduceBNe,UInt8.reduceToNat,UInt32.reduceToNat,bL,a,b];exact h):P:=i a b h
theorem Xh5{A B C D E F G H:Prop}(a:A)(b:B)(c:C)(d:D)(e:E)(f:F)(g:G)(k:H)(h:Q)(i:A->B->C->D->E->F->G->H->Q->P:=by intro a b c d e f g k h;simp -implicitDefEqProofs only[go_sem,Nat.reduceBEq,Nat.reduceAdd,Nat.reduceMul,Nat.reduceLeDiff,Nat.reduceEqDiff,Nat.reduceBNe,UInt8.reduceToNat,UInt32.reduceToNat,bL,a,b,c,d,e,f,g,k];exact h):P:=i a b c d e f g k h
theorem Xh6(h:Q)(i:Q->P:=by intro h;simp -implicitDefEqProofs only[go_sem];exact h):P:=i h
theorem Xh7{A:Prop}(a:A)(h:Q)(i:A->Q->P:=by intro a h;simp -implicitDefEqProofs only[go_sem,seval,set_set,a];exact h):P:=i a h
theorem Xh8{A B:Prop}(a:A)(b:B)(h:Q)(i:A->B->Q->P:=by intro a b h;simp -implicitDefEqProofs only[go_sem,Nat.reduceBEq,Nat.reduceAdd,Nat.reduceMul,Nat.reduceLeDiff,Nat.reduceEqDiff,Nat.reduceBNe,UInt8.reduceToNat,UInt32.reduceToNat,a,b];exact h):P:=i a b h
end
inductive AV where
 |undef
 |bool (b:Bool)
 |int (k:IntKind) (n:Int)
 |str (s:List UInt8)
 |fM
 |ref (b off:Nat)
 |lp (d off:Nat)
 |sp (cs:List AV)
 |loc (cs:List AV)
 |sl (own:Bool) (sz n:Nat) (cs:List AV)
 |arr (b off len cap:Nat)
 |agg (cs:List AV)
 |iJ (vs:List AV)
 |fn (f:Nat) (first fC:List AV)
 |pP
 |mp (b:Nat)
 |uf
 |when (b:Bool) (a:AV)
 |us (sz n:Nat) (cs:List AV)
 |one
 |oQ (t:Nat)
 |mw
 |bb (t n:Nat) (cs:List AV)
 deriving Inhabited
inductive SO where
 |cells (cs:List AV)
 |map (es:List (AV×AV))
 deriving Inhabited
abbrev ae:=Nat->Option SO
def ae.set(s:ae)(b:Nat)(o:SO):ae:=fun i=>if i=b then some o else s i
def ae.del(s:ae)(b:Nat):ae:=fun i=>if i=b then none else s i
inductive mb where
 |int (k:IntKind)
 |str
 |bool
 |bytes (n:Nat)
 deriving Inhabited
inductive IX where
 |t (i:Nat)
 |c (a:AV)
 deriving Inhabited
inductive rF where
 |px (tr:Bool) (x:IX)
 |pick (c x y:IX)
 |kj (zero:List AV)
 |nv (zero:List AV)
 |Kg (n:Nat) (x:IX)
 |Bq (n:Nat) (x:IX)
 |build (zero:List AV) (parts:List (Nat×Nat×IX))
 |ik (sz len:Nat) (zero:List AV) (parts:List (Nat×Nat×IX))
 |load (n:Nat) (multi:Bool) (x:IX)
 |store (n:Nat) (p v:IX)
 |nilCheck (x:IX)
 |bin (op:BinOp) (x y:IX)
 |eqB (ne:Bool) (x y:IX)
 |WB (ne:Bool) (x y:IX)
 |WC (ne:Bool) (x y:IX)
 |un (op:UnOp) (x:IX)
 |nx (k:IntKind) (x:IX)
 |kP (x:IX)
 |lU (x i:IX)
 |fieldAddr (off:Nat) (x:IX)
 |indexAddr (zero:List AV) (x i:IX)
 |jz (sz len:Nat) (x i:IX)
 |slice (sz:Nat) (x:IX) (lo hi mx:Option IX)
 |qy (x:IX) (lo hi:Option IX)
 |extract (x:IX) (k:Nat)
 |len (cls:Nat) (x:IX)
 |cap (x:IX)
 |mq (mx:Bool) (xs:List IX)
 |append (sz bytes:Nat) (x y:IX)
 |lP (sz bytes:Nat) (zero:List AV) (l c:IX)
 |makeMap
 |lookup (kk:mb) (zero:AV) (ok:Bool) (x k:IX)
 |mapUpdate (kk:mb) (x k v:IX)
 |kE (zero:List AV) (multi:Bool) (x:IX)
 |oY (x:IX)
 |vJ (x:IX)
 |call (f:Nat) (args:List IX)
 |iL (x:IX) (args:List IX)
 |ue (f:Nat) (first fC:List IX)
 |mV (sz len:Nat) (zero:List AV) (parts:List (Nat×Nat×IX))
 |nU (sz bytes:Nat) (zero:List AV) (x y:IX)
 |AL (sz:Nat) (x y:IX)
 |tx (zero:List AV) (x:IX)
 |WD (sz:Nat) (own:Bool) (x:IX)
 |nK (x:IX)
 |eqN (ne:Bool) (x:IX)
 |ovl (f:Nat) (x y:IX)
 |xU (f i:Nat) (args:List IX)
 |pU (sz bytes:Nat) (zero:List AV) (x y:IX)
 |Xn (ne:Bool) (x:IX)
 |Kh (sz n:Nat) (x:IX)
 |nL (off:Nat) (j x:IX)
 |nN (k:IntKind) (x:IX)
 |Xo (ne:Bool) (x:IX)
 |A9 (sz:Nat) (own:Bool) (x:IX)
 |KA (x:IX)
 |AI (f:Nat) (x:IX)
 |Kz (u:Nat) (x:IX)
 |Ki (n t j u:Nat) (x:IX)
 |pT (t:Nat) (x y:IX)
 deriving Inhabited
structure ar where
 dst:Option Nat
 op:rF
 g:Option (Nat×Bool)
 deriving Inhabited
inductive IC where
 |skip
 |EX (q:Option Nat) (ops:List ar) (live:List Nat)
 |VE (T:List Nat) (q:Nat) (ops:List ar) (live:List Nat)
 |RD (T:List Nat) (l:List (Nat×Nat×ar)) (live:List Nat)
 |YU (iH:List (List Bool)) (ops:List ar) (live:List Nat)
 |seq (a b:IC)
 |cond (c:IX) (a b:IC)
 |block (id:Nat) (b:IC)
 |loop (live:List (Nat×Bool)) (b:IC)
 |join (live:List (Nat×Bool)) (a b:IC)
 |exit (id:Nat)
 |scope (b:IC)
 |Er (l:Nat) (live:List (Nat×Bool)) (a1 a2 a3 r:IC)
 |label (l:Nat)
 |goto (l:Nat)
 |ret
 |dead
 deriving Inhabited
structure St where
 e:List (Nat×AV)
 lp:List (Nat×Nat)
 s:ae
def look:List (Nat×AV)->Nat->AV
 |[],_=>.undef
 |(j,a)::l,i=>bif j==i then a else look l i
def St.x(E:St):IX->AV
 |.t i=>look E.e i
 |.c a=>a
def St.put(E:St)(d:Option Nat)(a:AV):St:=
 match d with
 |some d=>{E with e:=(d,a)::E.e}
 |none=>E
def ed:AV->AV
 |.lp _ _=>.undef
 |.when _ _=>.undef
 |a=>a
def St.xc(E:St)(live:List Nat):St:={e:=live.map fun i=>(i,ed (look E.e i)),lp:=[],s:=E.s}
def view:AV->AV
 |.sl _ sz n cs=>.sl false sz n cs
 |.us _ _ _=>.undef
 |.oQ _=>.fM
 |.bb _ n cs=>.sl false 1 n cs
 |a=>a
def Wo(b:Bool)(a:AV):AV:=bif b then view a else a
def St.fk(E:St)(live:List (Nat×Bool)):St:={e:=live.map fun p=>(p.1,Wo p.2 (ed (look E.e p.1))),lp:=[],s:=E.s}
def inner:AV->Bool
 |.loc _=>false
 |.when _ _=>false
 |_=>true
def vi(g:Bool):AV->AV
 |.when b a=>bif((b==g)||b)&&inner a then a else .undef
 |a=>a
def TZ:Int:=9223372036854775807
def dF:AV->Bool
 |.undef=>false
 |.lp _ _=>false
 |.loc _=>false
 |.iJ _=>false
 |.when _ _=>false
 |.us _ _ _=>false
 |.oQ _=>false
 |_=>true
def ke(k:IntKind)(n:Int):Int:=k.wrap n
inductive PR where
 |c8 (a:AV)
 |prt (c:Prop) (a:AV)
 |no
def Q9(k k':IntKind):Bool:=decide (k=k')
def kk(k k':IntKind)(r:PR):PR:=bif Q9 k k' then r else .no
def sO(op:BinOp)(k k':IntKind)(a b:Int):PR:=
 match op with
 |.shl=>.prt (0<=b) (.int k (ke k (a*2^(min b.toNat k.bits))))
 |.shr=>.prt (0<=b) (.int k (a.fdiv (2^(min b.toNat k.bits))))
 |.add=>kk k k' (.c8 (.int k (ke k (a+b))))
 |.sub=>kk k k' (.c8 (.int k (ke k (a -b))))
 |.mul=>kk k k' (.c8 (.int k (ke k (a*b))))
 |.quo=>kk k k' (.prt (b≠0) (.int k (ke k (a.tdiv b))))
 |.rem=>kk k k' (.prt (b≠0) (.int k (a.tmod b)))
 |.and=>kk k k' (.c8 (.int k (k.wrap (BitVec.ofInt k.bits a&&&BitVec.ofInt k.bits b).toNat)))
 |.or=>kk k k' (.c8 (.int k (k.wrap (BitVec.ofInt k.bits a |||BitVec.ofInt k.bits b).toNat)))
 |.xor=>kk k k' (.c8 (.int k (k.wrap (BitVec.ofInt k.bits a^^^BitVec.ofInt k.bits b).toNat)))
 |.andNot=>kk k k' (.c8 (.int k (k.wrap (BitVec.ofInt k.bits a&&& ~~~BitVec.ofInt k.bits b).toNat)))
 |.eql=>kk k k' (.c8 (.bool (a==b)))
 |.neq=>kk k k' (.c8 (.bool (a !=b)))
 |.lss=>kk k k' (.c8 (.bool (decide (a<b))))
 |.leq=>kk k k' (.c8 (.bool (decide (a<=b))))
 |.gtr=>kk k k' (.c8 (.bool (decide (a>b))))
 |.geq=>kk k k' (.c8 (.bool (decide (a>=b))))
def Ke(op:BinOp)(a b:List UInt8):PR:=
 match op with
 |.add=>.prt (((a.length+b.length:Nat):Int)<=TZ) (.str (a++b))
 |.eql=>.c8 (.bool (a==b))
 |.neq=>.c8 (.bool (!(a==b)))
 |.lss=>.c8 (.bool (Op.bytesLess a b))
 |.leq=>.c8 (.bool (Op.bytesLess a b||a==b))
 |.gtr=>.c8 (.bool (!(Op.bytesLess a b||a==b)))
 |.geq=>.c8 (.bool (!Op.bytesLess a b))
 |_=>.no
def MU(op:BinOp)(x y:AV):PR:=
 match x,y with
 |.int k a,.int k' b=>sO op k k' a b
 |.str a,.str b=>Ke op a b
 |_,_=>.no
def Np(ne:Bool)(x y:AV):PR:=
 match x,y with
 |.bool a,.bool b=>.c8 (.bool ((a==b)!=ne))
 |_,_=>.no
def Fa(ne:Bool)(x y:AV):PR:=
 match x,y with
 |.fM,.fM=>.c8 (.bool (!ne))
 |.ref _ _,.fM=>.c8 (.bool ne)
 |.fM,.ref _ _=>.c8 (.bool ne)
 |.ref b o,.ref b' o'=>bif b==b'&&o==o' then .c8 (.bool (!ne))else .no
 |_,_=>.no
def Tv(ne:Bool)(x y:AV):PR:=
 match x,y with
 |.sl _ _ (_+1) _,.sl _ _ 0 []=>.c8 (.bool ne)
 |.arr _ _ _ (_+1),.sl _ _ 0 []=>.c8 (.bool ne)
 |_,_=>.no
def OR:List AV->List AV->Bool
 |[],[]=>true
 |.int k _::r,.int k' _::s=>Q9 k k'&&OR r s
 |_,_=>false
def Tt:List AV->List AV->Bool
 |.int _ a::r,.int _ b::s=>(a==b)&&Tt r s
 |_,_=>true
def amq(n:Nat)(ne:Bool)(x y:AV):PR:=
 match x,y with
 |.agg cs,.agg ds=>bif OR cs ds&&cs.length==n then .c8 (.bool (Tt cs ds !=ne))else .no
 |_,_=>.no
def KR(ne:Bool):AV->PR
 |.mw=>.c8 (.bool (!ne))
 |_=>.no
def KQ(ne:Bool):AV->PR
 |.fn _ _ _=>.c8 (.bool ne)
 |.pP=>.c8 (.bool (!ne))
 |_=>.no
def cellsOf:AV->List AV
 |.agg cs=>cs
 |a=>[a]
def oM(multi:Bool)(cs:List AV):AV:=match multi,cs with
 |true,cs=>.agg cs
 |false,a::_=>a
 |false,[]=>.undef
def sub(cs:List AV)(off n:Nat):List AV:=(cs.drop off).take n
def views(cs:List AV):List AV:=cs.map view
def bC:AV->List AV
 |.agg cs=>views cs
 |a=>[a]
def setAt(cs:List AV)(off:Nat)(news:List AV):List AV:=cs.take off++news++cs.drop (off+news.length)
def bx(b:Bool):AV->Option Bool
 |.bool x=>some x
 |.when b' (.bool x)=>bif(b'==b)||b' then some x else none
 |_=>none
def fill(f:IX->AV)(cells:List AV):List (Nat×Nat×IX)->Option (List AV)
 |[]=>some cells
 |(off,n,x)::r=>
  let c:=views (cellsOf (f x))
  bif dF (f x)&&(c.length==n&&decide (off+n<=cells.length))then fill f (setAt cells off c) r else none
def fN(n off:Nat)(cs:List AV):Option (List AV):=bif decide (off+n<=cs.length)then some (views (sub cs off n))else none
def l9(n off:Nat):AV->Option (List AV)
 |.loc cs=>fN n off cs
 |_=>none
def rk(n off:Nat):Option SO->Option (List AV)
 |some (.cells cs)=>fN n off cs
 |_=>none
def rd(E:St)(p:AV)(n:Nat):Option (List AV):=
 match p with
 |.loc cs=>fN n 0 cs
 |.lp d off=>l9 n off (look E.e d)
 |.sp cs=>fN n 0 cs
 |.ref b off=>rk n off (E.s b)
 |_=>none
def G7(f:IX->AV)(o:Option IX)(ajZ:Int):Option Int:=
 match o with
 |none=>some ajZ
 |some x=>match f x with
  |.int _ n=>some n
  |_=>none
def LK(mx:Bool):Int->List AV->Option Int
 |a,[]=>some a
 |a,.int _ b::r=>LK mx (bif mx then max a b else min a b) r
 |_,_=>none
def qO:AV->Bool
 |.agg _=>false
 |a=>dF a
def Fl(cs:List AV):Prop:=∀c∈cs,qO c=true
def Gk(t:Nat)(cs:List AV):Prop:=∀c∈cs,qO c=true\/c=.oQ t
def Rj(a:AV):PR:=bif dF a then .c8 (view a)else .no
def TL:AV->Option (Bool×Bool)
 |.bool x=>some (true,x)
 |.when b (.bool x)=>some (b,x)
 |_=>none
def Vl(b:Bool):Option (Bool×Bool)->Option (Bool×Bool)->PR
 |some (g1,p),some (g2,q)=>.prt ((b=true->g1=true)/\(b=false->g2=true)) (.bool (bif b then p else q))
 |_,_=>.no
def gv2:AV->Option (Bool×Bool)
 |.iJ []=>some (false,false)
 |a=>TL a
def Hv(x y:AV):AV->PR
 |.bool b=>Vl b (gv2 x) (gv2 y)
 |_=>.no
def Z8(a:AV):PR:=bif dF a then .c8 a else .no
def ckP(c:Prop)(a:AV):PR:=bif dF a then .prt c a else .no
def unV:UnOp->AV->PR
 |.not,.bool b=>.c8 (.bool (!b))
 |.neg,.int k n=>.c8 (.int k (ke k (0 -n)))
 |_,_=>.no
def uL(k:IntKind):AV->PR
 |.int _ n=>.c8 (.int k (ke k n))
 |_=>.no
def ajV:AV->PR
 |.str s=>.c8 (.str s)
 |_=>.no
def j9(multi:Bool):Option (List AV)->PR
 |some cs=>Z8 (oM multi cs)
 |none=>.no
def aj4(n:Nat)(multi:Bool)(off:Nat):AV->PR
 |.agg cs=>bif decide (off+n<=cs.length)then Z8 (view (oM multi (sub cs off n)))else .no
 |_=>.no
def akL(n:Nat)(multi:Bool)(len:Nat):AV->AV->PR
 |.agg cs,.int _ k=>bif len*n==cs.length then ckP (0<=k/\k<len) (view (oM multi (sub cs (k.toNat*n) n)))else .no
 |_,_=>.no
def vd:AV->AV->PR
 |.str s,.int _ k=>.prt (0<=k/\k<s.length) (.int .u8 (s.getD k.toNat 0).toNat)
 |_,_=>.no
def mr:AV->PR
 |.ref b off=>.c8 (.ref b off)
 |_=>.no
def Re(c:Prop)(off:Nat):IX->PR
 |.t i=>.prt (c) (.lp i off)
 |.c _=>.no
def gP(off:Nat)(x:IX):AV->PR
 |.lp d o=>.c8 (.lp d (o+off))
 |.sp cs=>bif decide (off<=cs.length)then .c8 (.sp (cs.drop off))else .no
 |.ref b o=>.c8 (.ref b (o+off))
 |.loc _=>Re True off x
 |_=>.no
def pad(zero cs:List AV):List AV:=bif cs.length==zero.length then cs else zero
def kU(zero:List AV):AV->AV->PR
 |.sl _ s n cs,.int _ k=>bif s==zero.length then .prt (0<=k/\k<n) (.sp (pad zero (views (sub cs (k.toNat*zero.length) zero.length))))else .no
 |.arr b off n _,.int _ k=>.prt (0<=k/\k<n) (.ref b (off+k.toNat*zero.length))
 |_,_=>.no
def gy(sz len:Nat)(x:IX):AV->AV->PR
 |.lp d o,.int _ k=>.prt (0<=k/\k<len) (.lp d (o+k.toNat*sz))
 |.sp cs,.int _ k=>bif decide (len*sz<=cs.length)then .prt (0<=k/\k<len) (.sp (cs.drop (k.toNat*sz)))else .no
 |.ref b o,.int _ k=>.prt (0<=k/\k<len) (.ref b (o+k.toNat*sz))
 |.loc _,.int _ k=>Re (0<=k/\k<len) (k.toNat*sz) x
 |_,_=>.no
def Cl(sz n:Nat)(cs:List AV):Option Int->Option Int->PR
 |some l,some h=>bif Nat.ble 1 sz then .prt (0<=l/\l<=h/\h<=n) (.sl false sz ((sub cs (l.toNat*sz) ((h -l).toNat*sz)).length/sz) (sub cs (l.toNat*sz) ((h -l).toNat*sz)))else .no
 |_,_=>.no
def jA(off cap l sz:Nat):Nat:=bif cap==l then off else off+l*sz
def zb(sz b off cap:Nat):Option Int->Option Int->PR
 |some l,some h=>.prt (0<=l/\l<=h/\h<=cap) (.arr b (jA off cap l.toNat sz) (h -l).toNat (cap -l.toNat))
 |_,_=>.no
def Au(sz b off cap:Nat):Option Int->Option Int->Option Int->PR
 |some l,some h,some m=>.prt (0<=l/\l<=h/\h<=m/\m<=cap) (.arr b (jA off m.toNat l.toNat sz) (h -l).toNat (m.toNat -l.toNat))
 |_,_,_=>.no
def qf(sz:Nat)(f:IX->AV)(lo hi:Option IX)(mx:IX):AV->PR
 |.arr b off _ cap=>Au sz b off cap (G7 f lo 0) (bif hi.isSome then G7 f hi 0 else none) (G7 f (some mx) 0)
 |_=>.no
def M4:AV->PR
 |.arr _ _ _ cap=>.c8 (.int .i64 cap)
 |_=>.no
def ux(sz:Nat)(f:IX->AV)(lo hi:Option IX):AV->PR
 |.sl _ s n cs=>bif s==sz then Cl sz n cs (G7 f lo 0) (G7 f hi n)else .no
 |.arr b off n cap=>zb sz b off cap (G7 f lo 0) (G7 f hi n)
 |_=>.no
def Et(s:List UInt8):Option Int->Option Int->PR
 |some l,some h=>.prt (0<=l/\l<=h/\h<=s.length) (.str ((s.drop l.toNat).take (h -l).toNat))
 |_,_=>.no
def mI(f:IX->AV)(lo hi:Option IX):AV->PR
 |.str s=>Et s (G7 f lo 0) (G7 f hi s.length)
 |_=>.no
def NV:Option SO->PR
 |some (.map es)=>.c8 (.int .i64 es.length)
 |_=>.no
def BK(s:ae):Nat->AV->PR
 |0,.sl _ _ n _=>.c8 (.int .i64 n)
 |0,.arr _ _ n _=>.c8 (.int .i64 n)
 |1,.str s=>.c8 (.int .i64 s.length)
 |2,.uf=>.c8 (.int .i64 0)
 |2,.mp b=>NV (s b)
 |_,_=>.no
def ahb(k:IntKind):Option Int->PR
 |some m=>.c8 (.int k m)
 |none=>.no
def uU(mx:Bool):List AV->PR
 |.int k n::r=>ahb k (LK mx n r)
 |_=>.no
def KS:Option AV->PR
 |some a=>Z8 (view a)
 |none=>.no
def qM(k:Nat):AV->PR
 |.iJ vs=>KS vs[k]?
 |_=>.no
def byteOf:AV->Option UInt8
 |.int .u8 n=>if 0<=n/\n<256 then some (UInt8.ofNat n.toNat)else none
 |_=>none
def SZ{α:Type}:Option α->Option (List α)->Option (List α)
 |some a,some l=>some (a::l)
 |_,_=>none
def bytesOf:List AV->Option (List UInt8)
 |[]=>some []
 |a::r=>SZ (byteOf a) (bytesOf r)
def abg:Option (List UInt8)->PR
 |some l=>.c8 (.str l)
 |none=>.no
def rR:AV->PR
 |.sl _ sz _ cs=>bif sz==1 then abg (bytesOf cs)else .no
 |_=>.no
def CA:Option (List AV)->PR
 |some cs=>.c8 (.agg cs)
 |none=>.no
def Qt(a:AV):Option (List AV)->Option (List AV)
 |some l=>bif dF a then some (view a::l)else none
 |none=>none
def cL(f:IX->AV):List IX->Option (List AV)
 |[]=>some []
 |x::r=>Qt (f x) (cL f r)
def uT(fi:Nat):Option (List AV)->Option (List AV)->PR
 |some a,some b=>.c8 (.fn fi a b)
 |_,_=>.no
def LC(zero:List AV)(multi:Bool)(off:Nat):Option SO->PR
 |some (.cells cs)=>ckP (off+zero.length<=cs.length) (oM multi (pad zero (views (sub cs off zero.length))))
 |_=>.no
def Hf(zero:List AV)(multi:Bool)(s:ae):AV->PR
 |.ref b off=>LC zero multi off (s b)
 |_=>.no
def NX(k:IntKind)(off:Nat):Option SO->Prop
 |some (.cells cs)=>∃n,cs[off]? =some (.int k n)
 |_=>False
def intOf:Option AV->Int
 |some (.int _ n)=>n
 |_=>0
def NY(off:Nat):Option SO->Int
 |some (.cells cs)=>intOf cs[off]?
 |_=>0
def z7(k:IntKind)(s:ae):AV->PR
 |.ref b off=>.prt (NX k off (s b)) (.int k (NY off (s b)))
 |_=>.no
def pv(o:rF)(f:IX->AV)(E:St):PR:=
 match o with
 |.px false x=>Rj (f x)
 |.pick c x y=>Hv (E.x x) (E.x y) (f c)
 |.bin op x y=>MU op (f x) (f y)
 |.eqB ne x y=>Np ne (f x) (f y)
 |.WB ne x y=>Fa ne (f x) (f y)
 |.WC ne x (.c (.sl true z 0 []))=>Tv ne (f x) (.sl true z 0 [])
 |.un op x=>unV op (f x)
 |.nx k x=>uL k (f x)
 |.load n multi x=>j9 multi (rd E (f x) n)
 |.lU x i=>vd (f x) (f i)
 |.nilCheck x=>mr (f x)
 |.fieldAddr off x=>gP off x (f x)
 |.indexAddr zero x i=>kU zero (f x) (f i)
 |.jz sz len x i=>gy sz len x (f x) (f i)
 |.slice sz x lo hi none=>ux sz f lo hi (f x)
 |.qy x lo hi=>mI f lo hi (f x)
 |.len cls x=>BK E.s cls (f x)
 |.mq mx xs=>uU mx (xs.map f)
 |.extract x k=>qM k (f x)
 |.build zero parts=>CA (fill f zero parts)
 |.ue fi first fC=>uT fi (cL f first) (cL f fC)
 |.kP x=>rR (f x)
 |.kE zero multi x=>Hf zero multi E.s (f x)
 |.nN k x=>z7 k E.s (f x)
 |.slice sz x lo hi (some mx)=>qf sz f lo hi mx (f x)
 |.cap x=>M4 (f x)
 |.Xn ne x=>KQ ne (f x)
 |.Xo ne x=>KR ne (f x)
 |_=>.no
inductive dh where
 |none
 |frame
 |slot (i j:Nat)
 |loc (i:Nat)
 |sh
 |cell (b j:Nat)
 |res (j:Nat)
 deriving DecidableEq
structure Gh where
 R:Nat->Nat
 O:Nat->dh
inductive VR(w:World)(R:Nat->Nat):AV->Value->Prop where
 |undef (v:Value):VR w R .undef v
 |bool (b:Bool):VR w R (.bool b) (.bool b)
 |int (k:IntKind) (n:Int):VR w R (.int k n) (.int k n)
 |str (s:List UInt8):VR w R (.str s) (.string ⟨s.toArray⟩)
 |fM:VR w R .fM (.pointer none)
 |ref (b off:Nat):VR w R (.ref b off) (.pointer (some ⟨b,off,none⟩))
 |sp (cs:List AV) (b off:Nat) (u:Nat->Value) (hf:Fl cs) (hR:off+cs.length<=R b)
   (hc:∀(j:Nat)(c:AV),cs[j]? =some c->w.cell? ⟨b,off+j,none⟩=some (u j)) (hr:∀(j:Nat)(c:AV),cs[j]? =some c->VR w R c (u j)):
   VR w R (.sp cs) (.pointer (some ⟨b,off,none⟩))
 |slnil (own:Bool) (sz:Nat):VR w R (.sl own sz 0 []) (.slice none 0 0)
 |sle (sz:Nat) (a:Addr) (cap:Nat):VR w R (.sl false sz 0 []) (.slice (some a) 0 cap)
 |sl (own:Bool) (sz n:Nat) (cs:List AV) (b off cap:Nat) (u:Nat->Value) (hf:Fl cs) (hl:cs.length=n*sz) (hR:off+cs.length<=R b) (fh:n<=cap)
   (hc:∀(j:Nat)(c:AV),cs[j]? =some c->w.cell? ⟨b,off+j,none⟩=some (u j)) (hr:∀(j:Nat)(c:AV),cs[j]? =some c->VR w R c (u j)):
   VR w R (.sl own sz n cs) (.slice (some ⟨b,off,none⟩) n cap)
 |arr (b off len cap:Nat):VR w R (.arr b off len cap) (.slice (some ⟨b,off,none⟩) len cap)
 |Ia (b off:Nat):VR w R (.arr b off 0 0) (.slice none 0 0)
 |agg (cs:List AV) (vs:Array Value) (hf:Fl cs) (hl:vs.size=cs.length) (hr:∀(j:Nat)(c:AV)(v:Value),cs[j]? =some c->vs[j]? =some v->VR w R c v):VR w R (.agg cs) (.agg vs)
 |iJ (cs:List AV) (vs:Array Value) (hl:vs.size=cs.length) (hr:∀(j:Nat)(c:AV)(v:Value),cs[j]? =some c->vs[j]? =some v->VR w R c v):VR w R (.iJ cs) (.tuple vs)
 |fn (f:Nat) (first fC:List AV) (vf vc:Array Value) (hl:vf.size=first.length) (hr:∀(j:Nat)(c:AV)(v:Value),first[j]? =some c->vf[j]? =some v->VR w R c v)
   (hl':vc.size=fC.length) (hr':∀(j:Nat)(c:AV)(v:Value),fC[j]? =some c->vc[j]? =some v->VR w R c v):VR w R (.fn f first fC) (.func (.func f) vf vc)
 |pP:VR w R .pP .nilFunc
 |mp (b:Nat):VR w R (.mp b) (.map (some b))
 |uf:VR w R .uf (.map none)
 |when (b:Bool) (a:AV) (v:Value) (h:b=true->VR w R a v):VR w R (.when b a) v
 |one (v:Value) (h:v.oneCell'=true):VR w R .one v
 |oQ (t:Nat):VR w R (.oQ t) (.pointer none)
 |mw:VR w R .mw .nilIface
 |bb (t n:Nat) (cs:List AV) (v:Value) (h:VR w R (.sl true 1 n cs) v) (h0:n=0->v=.slice none 0 0):VR w R (.bb t n cs) v
def dI(G:Gh)(w:World)(o:dh)(a:AV)(v:Value):Prop:=
 match a with
 |.sl true sz n _=>∀base m cap,v=.slice base m cap->(cap≠n\/0<n)->
   ∃b off c e fz,base=some ⟨b,off,none⟩/\G.O b=o/\G.R b=off+n*sz/\w.heap[b]? =some (.cells c e fz)/\c.size=off+cap*sz/\
    (∀k,k<c.size->¬(fz.1<=k/\k<fz.2))/\fz.1<=fz.2/\off=0/\(fz=(0,0)\/(0<n/\∃x,c[0]? =some (.int .u8 x)))/\
    ∀(k:Nat)(y:Value),off+n*sz<=k->c[k]? =some y->y.oneCell'=true
 |.bb e n _=>∀base m cap,v=.slice base m cap->(cap≠n\/0<n)->
   ∃b off c fz,base=some ⟨b,off,none⟩/\G.O b=o/\G.R b=off+n*1/\w.heap[b]? =some (.cells c e fz)/\c.size=off+cap*1/\
    (∀k,k<c.size->¬(fz.1<=k/\k<fz.2))/\fz.1<=fz.2/\off=0/\(fz=(0,0)\/(0<n/\∃x,c[0]? =some (.int .u8 x)))/\
    ∀(k:Nat)(y:Value),off+n*1<=k->c[k]? =some y->y.oneCell'=true
 |_=>True
def dY(G:Gh)(w:World)(o:Nat->dh)(cs:List AV)(c:Array Value):Prop:=c.size=cs.length/\∀(j:Nat)(x:AV)(y:Value),cs[j]? =some x->c[j]? =some y->VR w G.R x y/\dI G w (o j) x y
def UsR(G:Gh)(w:World)(o:dh)(sz n:Nat)(cs:List AV)(v:Value):Prop:=
 (n=0/\cs=[]/\(v=.slice none 0 0\/∃b off,v=.slice (some ⟨b,off,none⟩) 0 0))\/
 ∃b cap c t sp,0<cap/\n<=cap/\v=.slice (some ⟨b,0,none⟩) n cap/\G.O b=o/\G.R b=0/\w.heap[b]? =some (.cells c t (0,0))/\c.size=cap*sz/\cs.length=n*sz/\(cs++sp).length=cap*sz/\
  (∀(j:Nat)(x:AV)(u:Value),(cs++sp)[j]? =some x->c[j]? =some u->VR w G.R x u)/\Fl (cs++sp)/\views (cs++sp)=cs++sp
def dZ(G:Gh)(w:World)(e:List (Nat×AV))(tmps:Array Value)(i:Nat):AV->Value->Prop
 |.loc cs,v=>∃b c t,v=.pointer (some ⟨b,0,none⟩)/\G.O b=.loc i/\G.R b=0/\w.heap[b]? =some (.cells c t (0,0))/\dY G w (.cell b) cs c/\Fl cs
 |.lp d off,v=>∃b,v=.pointer (some ⟨b,off,none⟩)/\∀cs,look e d=.loc cs->tmps[d]? =some (.pointer (some ⟨b,0,none⟩))
 |.iJ vs,v=>∃ys:Array Value,v=.tuple ys/\dY G w (fun j=>.slot i (j+1)) vs ys
 |.when b a,v=>(b=true->dZ G w e tmps i a v)/\(b=false->v=.tuple #[])
 |.us sz n cs,v=>UsR G w (.slot i 0) sz n cs v
 |a,v=>VR w G.R a v/\dI G w (.slot i 0) a v
def bO:AV->Nat->Prop
 |.lp d _,d'=>d=d'
 |.when _ a,d'=>bO a d'
 |_,_=>False
structure cq(G:Gh)(w:World):Prop where
 jI:∀b,w.heap.size<=b->G.O b=.none
 jY:∀b,w.heap.size<=b->G.R b=0
def afB(G:Gh)(w:World)(x:AV×AV)(y:MapEntry):Prop:=VR w G.R x.1 y.key/\VR w G.R x.2 y.val
def ba(G:Gh)(w:World)(s:ae):Prop:=
 ∀b o,s b=some o->G.O b=.sh/\G.R b=0/\match o with
  |.cells cs=>∃c t,w.heap[b]? =some (.cells c t (0,0))/\dY G w (.cell b) cs c/\Gk t cs
  |.map es=>∃jV clock,w.heap[b]? =some (.map jV clock)/\jV.size=es.length/\∀(j:Nat)(x:AV×AV)(y:MapEntry),es[j]? =some x->jV[j]? =some y->afB G w x y
structure Inv(G:Gh)(n:Nat)(D:List Deferred)(E:St)(a:Act)(w:World):Prop where
 bc:cq G w
 store:ba G w E.s
 size:a.tmps.size=n
 cH:∀(i:Nat)(v:Value),a.tmps[i]? =some v->dZ G w E.e a.tmps i (look E.e i) v
 E6:∀i,n<=i->look E.e i=.undef
 MG:∀i d,bO (look E.e i) d->(i,d)∈E.lp
 qL:a.defers=D
structure aI(G:Gh)(w:World)(G':Gh)(w':World):Prop where
 os:w'.os=w.os
 tape:w'.tape=w.tape
 output:w'.output=w.output
 drawn:w.drawn<=w'.drawn
 size:w.heap.size<=w'.heap.size
 mono:∀b,b<w.heap.size->G.R b<=G'.R b
 nD:∀b k,b<w.heap.size->k<G.R b->w'.cell? ⟨b,k,none⟩=w.cell? ⟨b,k,none⟩
 frame:∀b,b<w.heap.size->G.O b=.frame\/G.O b=.none->w'.heap[b]? =w.heap[b]?
 jF:∀b,b<w.heap.size->G.O b=.frame->G'.O b=.frame/\G'.R b=G.R b
 pZ:∀b,b<w.heap.size->G.O b=.none->G'.O b=.none/\G'.R b=G.R b
def aa8(G:Gh)(w:World)(a:AV)(v:Value):Prop:=
 match a with
 |.us sz n cs=>UsR G w (.res 0) sz n cs v
 |a=>VR w G.R a v/\dI G w (.res 0) a v
def nt(G:Gh)(w:World)(rs:List AV)(v:Value):Prop:=
 match rs with
 |[a]=>aa8 G w a v
 |rs=>∃ys:Array Value,v=.tuple ys/\dY G w (fun j=>.res j) rs ys
def xI(G:Gh):Prop:=∀b,G.O b=.none\/G.O b=.frame\/G.O b=.sh\/∃b' j,G.O b=.cell b' j/\G.O b'=.sh
def k8(w:World)(R:Nat->Nat)(args:List AV)(vs:Array Value):Prop:=vs.size=args.length/\∀(j:Nat)(a:AV)(v:Value),args[j]? =some a->vs[j]? =some v->VR w R a v
def FN(P:Program)(f:FuncId)(args:List AV)(s:ae)(Q:List AV->ae->Prop):Prop:=
 ∀(G:Gh)(w:World)(vs:Array Value),cq G w->xI G->ba G w s->k8 w G.R args vs->
  Calls P f vs w fun e w'=>∃v rs s' G',e=.returned v/\Q rs s'/\cq G' w'/\ba G' w' s'/\nt G' w' rs v/\aI G w G' w'
def FN.mono{P:Program}{f:FuncId}{args:List AV}{s:ae}{Q Q':List AV->ae->Prop}(h:FN P f args s Q)(hq:∀rs s',Q rs s'->Q' rs s'):FN P f args s Q':=fun G w vs h1 h2 h3 h4=>(h G w vs h1 h2 h3 h4).mono fun _ _⟨v,rs,s',G',a,b,c⟩=>⟨v,rs,s',G',a,hq _ _ b,c⟩
def FE(P:Program)(f:FuncId)(args:List AV)(s:ae)(rs:List AV)(s':ae):Prop:=FN P f args s fun r t=>r=rs/\t=s'
theorem FE.app{P:Program}{f:FuncId}{args:List AV}{s s':ae}{rs:List AV}{Q:List AV->ae->Prop}(h:FE P f args s rs s')(hq:Q rs s'):FN P f args s Q:=FN.mono h fun _ _⟨h1,h2⟩=>by rw[h1,h2];exact hq
def fO:List AV->AV
 |[a]=>a
 |rs=>.iJ rs
def room:Nat:=140737488355328
def mn(lp:List (Nat×Nat))(d:Option Nat):Bool:=match d with
 |some d=>lp.all fun x=>!Nat.beq x.2 d
 |none=>true
def St.drain(E:St)(x:IX):St:=match x with
 |.t i=>E.put (some i) (view (look E.e i))
 |.c _=>E
def fQ(off:Nat)(news:List AV)(jh:List AV):Option (List AV):=bif decide (off+news.length<=jh.length)then some (setAt jh off news)else none
def wrL(E:St)(d:Nat):Option (List AV)->Option St
 |some cs=>some (E.put (some d) (.loc cs))
 |none=>none
def wrS(E:St)(b:Nat):Option (List AV)->Option St
 |some cs=>some {E with s:=E.s.set b (.cells cs)}
 |none=>none
def Qm(E:St)(d off:Nat)(news:List AV):AV->Option St
 |.loc jh=>wrL E d (fQ off news jh)
 |_=>none
def Wp(E:St)(b off:Nat)(news:List AV):Option SO->Option St
 |some (.cells jh)=>wrS E b (fQ off news jh)
 |_=>none
def aiH(E:St)(news jh:List AV):IX->Option St
 |.t d=>wrL E d (fQ 0 news jh)
 |.c _=>none
def MB(E:St)(p:AV)(i:IX)(news:List AV):Option St:=
 match p with
 |.loc jh=>aiH E news jh i
 |.lp d off=>Qm E d off news (look E.e d)
 |.ref b off=>Wp E b off news (E.s b)
 |_=>none
def UC:AV->AV->Bool
 |.int _ a,.int _ b=>a==b
 |.str a,.str b=>a==b
 |.bool a,.bool b=>a==b
 |_,_=>false
def sc:List AV->List AV->Bool
 |[],[]=>true
 |a::x,b::y=>UC a b&&sc x y
 |_,_=>false
def nc(a b:AV):Bool:=sc (cellsOf a) (cellsOf b)
def fS(k:AV):List (AV×AV)->Option AV
 |[]=>none
 |x::r=>bif nc k x.1 then some x.2 else fS k r
def uk(k v:AV):List (AV×AV)->List (AV×AV)
 |[]=>[(k,v)]
 |x::r=>bif nc k x.1 then(k,v)::r else x::uk k v r
section
variable(P:Program)
def UU(E:St)(x:IX)(d:Option Nat)(K:St->Prop)(a:AV):Prop:=dF a=true/\K ((E.drain x).put d a)
def ZW(n:Nat)(E:St)(d:Option Nat)(K:St->Prop)(a:AV):Prop:=dF a=true/\(cellsOf a).length=n/\K (E.put d (.loc (views (cellsOf a))))
def ZY(n:Nat)(E:St)(d:Option Nat)(K:St->Prop)(a:AV):Prop:=dF a=true/\(cellsOf a).length=n/\∀b,E.s b=none->K ({E with s:=E.s.set b (.cells (views (cellsOf a)))}.put d (.ref b 0))
def xS(sz n:Nat)(E:St)(d:Option Nat)(K:St->Prop):Option (List AV)->Prop
 |some cs=>cs.length=n*sz/\K (E.put d (.sl true sz n cs))
 |none=>False
def Sk(d:Option Nat)(K:St->Prop):Option St->Prop
 |some τ=>K (τ.put d (.iJ []))
 |none=>False
def OC(n:Nat)(E:St)(p:IX)(v:IX)(d:Option Nat)(K:St->Prop)(a:AV):Prop:=dF a=true/\(bC a).length=n/\Sk d K (MB (E.drain v) (E.x p) p (bC a))
def mM(sz bytes:Nat)(E:St)(x:IX)(d:Option Nat)(K:St->Prop):AV->AV->Prop
 |.sl true s n cs,.sl _ s' m ds=>s=sz/\(s'=sz\/m=0)/\(n+m)*bytes<=room/\K ((E.drain x).put d (.sl true sz (n+m) (cs++views ds)))
 |.sl true s n cs,.str ds=>s=sz/\sz=1/\(n+ds.length)*bytes<=room/\K ((E.drain x).put d (.sl true sz (n+ds.length) (cs++ds.map fun c=>.int .u8 c.toNat)))
 |_,_=>False
def Cc(E:St)(d:Option Nat)(K:St->Prop):AV->Prop
 |.sl _ sz _ cs=>sz=1/\∃s:List UInt8,cs=(s.map fun c=>.int .u8 c.toNat)/\K (E.put d (.str s))
 |_=>False
def aho:List UInt8->Bool
 |[]=>false
 |_::_=>true
def QJ(E:St)(d:Option Nat)(K:St->Prop):AV->Prop
 |.str s=>K (E.put d (.sl (aho s) 1 s.length (s.map fun c=>.int .u8 c.toNat)))
 |_=>False
def yF(bytes:Nat)(zero:List AV)(E:St)(d:Option Nat)(K:St->Prop):AV->AV->Prop
 |.int _ l,.int _ c=>0<=l/\l<=c/\c*bytes<=room/\
   ∀b,E.s b=none->K ({E with s:=E.s.set b (.cells ((List.replicate c.toNat zero).flatten))}.put d (.arr b 0 l.toNat c.toNat))
 |_,_=>False
def ai4(sz bytes:Nat)(E:St)(d:Option Nat)(K:St->Prop):AV->Prop
 |.int _ c=>0<=c/\c*bytes<=room/\K (E.put d (.sl true sz 0 []))
 |_=>False
def EU(ok:Bool)(a:AV)(b:Bool):AV:=match ok with
 |true=>.iJ [a,.bool b]
 |false=>a
def Dk:AV->Bool
 |.int .u8 _=>true
 |_=>false
def ft:mb->AV->Bool
 |.int k,.int k' _=>Q9 k k'
 |.str,.str _=>true
 |.bool,.bool _=>true
 |.bytes n,.agg cs=>cs.length==n&&cs.all Dk
 |_,_=>false
def kV(kk:mb)(es:List (AV×AV)):Bool:=es.all fun x=>ft kk x.1
def uc(zero:AV)(ok:Bool):Option AV->AV
 |some v=>EU ok (view v) true
 |none=>EU ok (view zero) false
def xq:AV->Bool
 |.iJ _=>true
 |a=>dF a
def xp:Bool->AV->Bool
 |true,_=>true
 |false,a=>dF a
def Ks(ok:Bool)(c:Prop)(a:AV):PR:=bif xp ok a then .prt c a else .no
def oe(kk:mb)(zero:AV)(ok:Bool)(k:AV):Option SO->PR
 |some (.map es)=>Ks ok (ft kk k=true/\kV kk es=true) (uc zero ok (fS k es))
 |_=>.no
def kN(kk:mb)(zero:AV)(ok:Bool)(s:ae)(k:AV):AV->PR
 |.mp b=>oe kk zero ok k (s b)
 |.uf=>Ks ok (ft kk k=true) (EU ok (view zero) false)
 |_=>.no
def FY:AV->PR
 |.sl true 1 (n+1) (.int .u8 x::cs)=>.c8 (.sl false 1 (n+1) (.int .u8 x::cs))
 |_=>.no
def EH:AV->PR
 |.iJ vs=>.c8 (.iJ (views vs))
 |_=>.no
def Sj(E:St)(d:Option Nat)(K:St->Prop):PR->Prop
 |.c8 a=>K (E.put d a)
 |.prt c a=>c/\K (E.put d a)
 |.no=>False
def R8(kk:mb)(b:Nat)(E:St)(k v:AV)(d:Option Nat)(K:St->Prop):Option SO->Prop
 |some (.map es)=>(dF v=true/\ft kk k=true/\kV kk es=true)/\K ({E with s:=E.s.set b (.map (uk (view k) (view v) es))}.put d (.iJ []))
 |_=>False
def yG(kk:mb)(E:St)(k v:AV)(d:Option Nat)(K:St->Prop):AV->Prop
 |.mp b=>R8 kk b E k v d K (E.s b)
 |_=>False
def Uw:AV->Bool
 |.us _ _ _=>true
 |_=>false
def ko:List AV->Bool
 |[a]=>dF a||Uw a
 |_=>true
def Kp(E:St)(d:Option Nat)(K:St->Prop)(rs:List AV)(s':ae):Prop:=ko rs=true/\K ({E with s:=s'}.put d (fO rs))
def vT(f:Nat)(E:St)(d:Option Nat)(K:St->Prop):Option (List AV)->Prop
 |some args=>FN P f args E.s (Kp E d K)
 |none=>False
def sQ(f:FuncId):Bool:=match P.funcs[f]? with
 |some fn=>fn.name != "runtime.NumGoroutine" &&fn.body.isSome
 |none=>false
def SK(f:Nat)(first fC:List AV)(E:St)(d:Option Nat)(K:St->Prop):Option (List AV)->Prop
 |some args=>sQ P f=true/\FN P f (first++args++fC) E.s (Kp E d K)
 |none=>False
def wP(E:St)(args:Option (List AV))(d:Option Nat)(K:St->Prop):AV->Prop
 |.fn f first fC=>SK P f first fC E d K args
 |_=>False
def xg(g:Bool)(E:St)(x:IX):AV:=vi g (E.x x)
def abj(i:Nat)(E:St)(W:St->Prop):AV->Prop
 |.us sz n cs=>(∀b cap sp,E.s b=none->0<cap->n<=cap->(cs++sp).length=cap*sz->Fl (cs++sp)->views sp=sp->W ({E with s:=E.s.set b (.cells (cs++sp))}.put (some i) (.arr b 0 n cap)))/\
   (n=0->∀b off,W (E.put (some i) (.arr b off 0 0)))
 |_=>False
def xi(sz:Nat):AV->AV
 |.arr _ 0 0 0=>.sl true sz 0 []
 |a=>a
def Mt(sz:Nat):AV->List AV
 |.agg cs=>(views cs).map (xi sz)
 |a=>[a]
def ajy(sz n:Nat)(E:St)(p:IX)(v:IX)(d:Option Nat)(K:St->Prop)(a:AV):Prop:=dF a=true/\(Mt sz a).length=n/\Sk d K (MB (E.drain v) (E.x p) p (Mt sz a))
def ZX(sz n:Nat)(E:St)(d:Option Nat)(K:St->Prop)(a:AV):Prop:=dF a=true/\(cellsOf a).length=n/\∀b,E.s b=none->K ({E with s:=E.s.set b (.cells ((views (cellsOf a)).map (xi sz)))}.put d (.ref b 0))
def zu(sz n:Nat)(E:St)(d:Option Nat)(K:St->Prop):Option (List AV)->Prop
 |some cs=>cs.length=n*sz/\∀b,E.s b=none->K ({E with s:=E.s.set b (.cells (views cs))}.put d (.arr b 0 n n))
 |none=>False
def jU(m sz off:Nat):Option SO->Option (Nat×List AV)
 |some (.cells cs)=>bif decide (off+m*sz<=cs.length)then some (m,views (sub cs off (m*sz)))else none
 |_=>none
def vM(s:ae)(sz:Nat):AV->Option (Nat×List AV)
 |.sl _ s' m ds=>bif s'==sz then some (m,views ds)else bif m==0 then some (0,[])else none
 |.str l=>bif sz==1 then some (l.length,l.map fun c=>.int .u8 c.toNat)else none
 |.arr b off m _=>bif m==0 then some (0,[])else jU m sz off (s b)
 |_=>none
def pA(s:ae)(sz b off n:Nat):Option (List AV):=bif n==0 then some []else(jU n sz off (s b)).map Prod.snd
def xw(sz b off cap:Nat):Option SO->Prop
 |some (.cells cs)=>off+cap*sz<=cs.length
 |_=>False
def setRow(s:ae)(b off:Nat)(news:List AV):Option SO->ae
 |some (.cells cs)=>s.set b (.cells (setAt cs off news))
 |_=>s
def Qr(sz bytes:Nat)(zero:List AV)(E:St)(d:Option Nat)(K:St->Prop)(b off n cap m:Nat)(ds:List AV):Option (List AV)->Prop
 |some olds=>zero.length=sz/\(n+m<=cap->(m=0/\K (E.put d (.arr b off n cap)))\/(xw sz b off cap (E.s b)/\K ({E with s:=setRow E.s b (off+n*sz) ds (E.s b)}.put d (.arr b off (n+m) cap))))/\
   (cap<n+m->(n+m)*bytes<=room/\∀b' cQ,E.s b'=none->n+m<=cQ->K ({E with s:=E.s.set b' (.cells (olds++ds++(List.replicate (cQ -(n+m)) zero).flatten))}.put d (.arr b' 0 (n+m) cQ)))
 |none=>False
def eP(sz bytes:Nat)(zero:List AV)(E:St)(d:Option Nat)(K:St->Prop):AV->Option (Nat×List AV)->Prop
 |.arr b off n cap,some (m,ds)=>Qr sz bytes zero E d K b off n cap m ds (pA E.s sz b off n)
 |_,_=>False
def xM(sz bytes:Nat)(zero:List AV)(E:St)(d:Option Nat)(K:St->Prop):AV->AV->Prop
 |.arr b off n cap,.int .i64 c=>0<=c/\cap<n+c.toNat/\views zero=zero/\Qr sz bytes zero E d K b off n cap c.toNat (List.replicate c.toNat zero).flatten (pA E.s sz b off n)
 |_,_=>False
def zA(sz:Nat)(E:St)(d:Option Nat)(K:St->Prop):AV->Option (Nat×List AV)->Prop
 |.arr b off n _,some (m,ds)=>(min m n=0/\K (E.put d (.int .i64 0)))\/(xw sz b off n (E.s b)/\K ({E with s:=setRow E.s b off (ds.take (min m n*sz)) (E.s b)}.put d (.int .i64 (min m n:Nat))))
 |_,_=>False
def xX(zero:List AV)(E:St)(d:Option Nat)(K:St->Prop):AV->Prop
 |.arr b off n _=>(n=0/\K (E.put d (.iJ [])))\/(xw zero.length b off n (E.s b)/\views zero=zero/\K ({E with s:=setRow E.s b off (List.replicate n zero).flatten (E.s b)}.put d (.iJ [])))
 |_=>False
def J8(P:Program)(f:FuncId):Prop:=∀(w:World)(a b:Nat)(oa la ca ob lb cb:Nat)(ta tb:TypeId)(x y:Array Value)(fa:Nat×Nat),a≠b->w.heap[a]? =some (.cells x ta fa)->x.size≠0->w.heap[b]? =some (.cells y tb (0,0))->y.size≠0->
 ∃w',(callFunc f #[.slice (some ⟨a,oa,none⟩) la ca,.slice (some ⟨b,ob,none⟩) lb cb]).run P w=.ok (.value (.bool false)) w'/\w'.heap=w.heap/\w'.os=w.os/\w'.tape=w.tape/\w'.output=w.output/\w.drawn<=w'.drawn
def cellsIn:Option SO->Prop
 |some (.cells (_::_))=>True
 |_=>False
def Yv(P:Program)(f:FuncId)(E:St)(d:Option Nat)(K:St->Prop):AV->AV->Prop
 |.sl _ _ (_+1) (_::_),.arr b' _ _ (_+1)=>J8 P f/\cellsIn (E.s b')/\K (E.put d (.bool false))
 |_,_=>False
def yg(sz:Nat)(own:Bool)(E:St)(d:Option Nat)(K:St->Prop):AV->Prop
 |.arr b off n cap=>(cap=0/\n=0/\off=0/\K (E.put d (.sl own sz 0 [])))\/(0<cap/\n<=cap/\(own=true->off=0/\xw sz b off cap (E.s b)/\sizeV (off+cap*sz) (E.s b))/\frzK sz own E d K b n (jU n sz off (E.s b)))
 |_=>False
where
 sizeV (k:Nat):Option SO->Prop
  |some (.cells cs)=>cs.length=k
  |_=>False
 frzK (sz:Nat) (own:Bool) (E:St) (d:Option Nat) (K:St->Prop) (b n:Nat):Option (Nat×List AV)->Prop
  |some (_,cs)=>K ({E with s:=E.s.del b}.put d (.sl own sz n cs))
  |none=>False
def Xs(x:IX)(d:Option Nat)(τ:St):St:=match x,d with
 |.t i,some j=>match look τ.e j with
  |.sl _ sz n cs=>τ.put (some i) (.sl false sz n cs)
  |_=>τ
 |_,_=>τ
def NW(sz:Nat)(own:Bool)(E:St)(d:Option Nat)(K:St->Prop):Option (List AV)->Prop
 |some [a]=>dF a=true/\yg sz own E d K a
 |_=>False
def kH(off:Nat)(cs:List AV)(k:List AV->AV->Prop):Prop:=match cs[off]? with
 |some (.sl o sz n ds)=>k (setAt cs off [.sl false sz n ds]) (.sl o sz n ds)
 |some (.bb t n ds)=>k (setAt cs off [.sl false 1 n ds]) (.bb t n ds)
 |_=>False
def EG(off:Nat)(cs:List AV)(k:List AV->AV->Prop):Prop:=match cs[off]? with
 |some (.sl o sz n ds)=>k (setAt cs off [.sl false sz n ds]) (.sl o sz n ds)
 |_=>False
def sf(E:St)(d:Option Nat)(K:St->Prop):AV->Prop
 |.ref b off=>match E.s b with
  |some (.cells cs)=>kH off cs fun cs' a=>K ({E with s:=E.s.set b (.cells cs')}.put d a)
  |_=>False
 |.lp i off=>match look E.e i with
  |.loc cs=>d≠some i/\EG off cs fun cs' a=>K ((E.put (some i) (.loc cs')).put d a)
  |_=>False
 |_=>False
def Di(j:IX)(off:Nat)(a:AV):Bool:=match j,a with
 |.t i,.lp i' o=>i'==i&&o==off
 |_,_=>false
def Tu(ne:Bool)(E:St)(d:Option Nat)(K:St->Prop):AV->Prop
 |.sl _ _ n _=>∀v:Bool,(v=!ne->n=0)->K (E.put d (.bool v))
 |.arr _ _ _ cap=>∀v:Bool,(v=!ne->cap=0)->K (E.put d (.bool v))
 |_=>False
def Tb(d:Option Nat)(K:St->Prop)(E:St)(b off:Nat):Option SO->Prop
 |some (.cells cs)=>off<cs.length/\K (E.put d (.ref b off))
 |_=>False
def Pb(E:St)(d:Option Nat)(K:St->Prop):AV->Prop
 |.ref b off=>Tb d K E b off (E.s b)
 |_=>False
def LB(t cells off u:Nat):Bool:=liesAt P P.depth t (cells/P.cellsOf t) off u 1
def Ta(u:Nat)(d:Option Nat)(K:St->Prop)(E:St)(b off:Nat):Option SO->Prop
 |some (.cells cs)=>∃t,cs[off]? =some (.oQ t)/\LB P t cs.length off u=true/\K (E.put d (.ref b off))
 |_=>False
def Pa(u:Nat)(E:St)(d:Option Nat)(K:St->Prop):AV->Prop
 |.ref b off=>Ta P u d K E b off (E.s b)
 |_=>False
def agI(f:Nat):Prop:=∀(x:Value)(w:World),(callFunc f #[x]).run P w=.ok (.value x) w
def M3(f:Nat)(E:St)(d:Option Nat)(K:St->Prop)(a:AV):Prop:=dF a=true/\agI P f/\K (E.put d (view a))
def ZZ(n t j u:Nat)(E:St)(d:Option Nat)(K:St->Prop)(a:AV):Prop:=dF a=true/\(cellsOf a).length=n/\(cellsOf a)[j]? =some .fM/\(cellsOf a)[j+1]? =some (.bb u 0 [])/\∀b,E.s b=none->K ({E with s:=E.s.set b (.cells (setAt (views (cellsOf a)) j [.oQ t,.bb u 0 []]))}.put d (.ref b 0))
def th(t:Nat)(E:St)(x:IX)(d:Option Nat)(K:St->Prop):AV->AV->Prop
 |.bb t' n cs,.sl _ s' m ds=>t=t'/\(s'=1\/m=0)/\(n+m)*1<=room/\K ((E.drain x).put d (.bb t (n+m) (cs++views ds)))
 |.bb t' n cs,.str ds=>t=t'/\(n+ds.length)*1<=room/\K ((E.drain x).put d (.bb t (n+ds.length) (cs++ds.map fun c=>.int .u8 c.toNat)))
 |_,_=>False
def ju(o:rF)(d:Option Nat)(E:St)(K:St->Prop):Prop:=
 match o with
 |.px _ x=>UU E x d K (E.x x)
 |.kj zero=>mn E.lp d=true/\K (E.put d (.loc zero))
 |.nv zero=>∀b,E.s b=none->K ({E with s:=E.s.set b (.cells zero)}.put d (.ref b 0))
 |.Kg n x=>mn E.lp d=true/\ZW n E d K (E.x x)
 |.Bq n x=>ZY n E d K (xg true E x)
 |.ik sz n zero parts=>xS sz n E d K (fill (xg true E) zero parts)
 |.store n p v=>OC n E p v d K (E.x v)
 |.append sz bytes x y=>mM sz bytes E x d K (E.x x) (E.x y)
 |.kP x=>Cc E d K (xg true E x)
 |.lP _ bytes zero l c=>yF bytes zero E d K (xg true E l) (xg true E c)
 |.makeMap=>∀b,E.s b=none->K ({E with s:=E.s.set b (.map [])}.put d (.mp b))
 |.call f args=>vT P f E d K (cL (xg true E) args)
 |.iL x args=>wP P E (cL (xg true E) args) d K (xg true E x)
 |.lookup kk zero ok x k=>Sj E d K (kN kk zero ok E.s (xg true E k) (xg true E x))
 |.oY x=>Sj E d K (FY (xg true E x))
 |.vJ x=>Sj E d K (EH (xg true E x))
 |.mapUpdate kk x k v=>yG kk E (xg true E k) (xg true E v) d K (xg true E x)
 |.mV sz n zero parts=>zu sz n E d K (fill (xg true E) zero parts)
 |.nU sz bytes zero x y=>eP sz bytes zero E d K (E.x x) (vM E.s sz (E.x y))
 |.pU sz bytes zero x y=>xM sz bytes zero E d K (E.x x) (xg true E y)
 |.AL sz x y=>zA sz E d K (E.x x) (vM E.s sz (E.x y))
 |.tx zero x=>xX zero E d K (E.x x)
 |.WD sz own x=>yg sz own E d (fun τ=>K (Xs x d τ)) (E.x x)
 |.A9 sz own x=>NW sz own E d K (rd E (xg true E x) 1)
 |.nK x=>sf E d K (E.x x)
 |.nL off j x=>Di j off (E.x x)=true/\sf E d K (E.x x)
 |.eqN ne x=>Tu ne E d K (E.x x)
 |.ovl f x y=>Yv P f E d K (E.x x) (E.x y)
 |.Kh sz n x=>ZX sz n E d K (E.x x)
 |.Ki n t j u x=>ZZ n t j u E d K (E.x x)
 |.pT t x y=>th t E x d K (E.x x) (E.x y)
 |.KA x=>Pb E d K (E.x x)
 |.AI f x=>M3 P f E d K (E.x x)
 |.Kz u x=>Pa P u E d K (E.x x)
 |.xU f i args=>abj i E (fun τ=>vT P f τ d K (cL (xg true τ) args)) (look E.e i)
 |_=>False
def ch(E:St):AV->Option Nat->St
 |.lp t _,some i=>{E with lp:=(i,t)::E.lp}
 |.when _ a,d=>ch E a d
 |_,_=>E
def nxt(o:rF)(E:St)(d:Option Nat)(K:St->Prop):PR->Prop
 |.c8 a=>K ((ch E a d).put d a)
 |.prt c a=>c/\K ((ch E a d).put d a)
 |.no=>ju P o d E K
def owp(o:rF)(d:Option Nat)(E:St)(K:St->Prop):Prop:=nxt P o E d K (pv o (xg true E) E)
def Si(g:Bool)(o:rF)(E:St)(d:Option Nat)(K:St->Prop):PR->Prop
 |.c8 a=>K ((ch E a d).put d (.when g a))
 |.prt c a=>(g=true->c)/\K ((ch E a d).put d (.when g a))
 |.no=>(g=true->owp P o d E K)/\(g=false->K (E.put d (.iJ [])))
def zH(o:rF)(d:Option Nat)(t:Nat)(want:Bool)(E:St)(K:St->Prop):AV->Prop
 |.bool b=>Si P (b==want) o E d K (pv o (xg (b==want) E) E)
 |.when b' (.bool b)=>Si P (b'&&(b==want)) o E d K (pv o (xg (b'&&(b==want)) E) E)
 |.iJ []=>K (E.put d (.iJ []))
 |_=>False
def MF(o:ar)(E:St)(K:St->Prop):Prop:=
 match o.g with
 |none=>owp P o.op o.dst E K
 |some (t,want)=>zH P o.op o.dst t want E K (look E.e t)
def swp:List ar->St->(St->Prop)->Prop
 |[],E,K=>K E
 |o::r,E,K=>MF P o E (fun τ=>swp r τ K)
def aij(r:List ar)(K:St->Prop)(τ:St):Prop:=swp P r τ K
def bF:AV->Bool
 |.loc _=>false
 |_=>true
def Sl(g:Bool):PR->PR
 |.c8 a=>.c8 (.when g a)
 |.prt c a=>.prt (g=true->c) (.when g a)
 |.no=>.no
def rdO:rF->Bool
 |.kE _ _ _=>true
 |_=>false
def Zx(r g:Bool):PR->PR
 |.c8 a=>.c8 (.when g a)
 |.prt c a=>.prt (g=true->c) (.when g a)
 |.no=>bif r then .prt (g=false) (.when g .undef)else .no
def Ol(o:rF)(want:Bool)(E:St):AV->PR
 |.bool b=>Zx (rdO o) (b==want) (pv o (xg (b==want) E) E)
 |.when g (.bool b)=>Zx (rdO o) (g&&(b==want)) (pv o (xg (g&&(b==want)) E) E)
 |_=>.no
def qv(o:ar)(E:St):PR:=match o.g with
 |none=>pv o.op (xg true E) E
 |some (t,want)=>Ol o.op want E (look E.e t)
def qK(E:St)(d:Option Nat)(K:St->Prop):PR->Prop
 |.c8 a=>bF a=true/\K ((ch E a d).put d a)
 |.prt c a=>c/\bF a=true/\K ((ch E a d).put d a)
 |.no=>False
def Vu(f:Nat)(E:St)(d:Option Nat)(K:St->Prop):Option (List AV)->Prop
 |some as=>∃rs,ko rs=true/\FE P f as E.s rs E.s/\K (E.put d (fO rs))
 |none=>False
def P1(f:Nat)(first fC:List AV)(E:St)(d:Option Nat)(K:St->Prop):Option (List AV)->Prop
 |some as=>sQ P f=true/\∃rs,ko rs=true/\FE P f (first++as++fC) E.s rs E.s/\K (E.put d (fO rs))
 |none=>False
def Oj(E:St)(args:Option (List AV))(d:Option Nat)(K:St->Prop):AV->Prop
 |.fn f first fC=>P1 P f first fC E d K args
 |_=>False
def callee(x:IX)(args:List IX)(g:Bool)(E:St)(f:Nat)(as:List AV):Prop:=∃first fC xs,xg g E x=.fn f first fC/\cL (xg g E) args=some xs/\as=first++xs++fC
def Jr(x:IX)(args:List IX)(want:Bool)(E:St)(d:Option Nat)(K:St->Prop):AV->Prop
 |.bool b=>∃rs,ko rs=true/\((b==want)=true->∃f as,callee x args (b==want) E f as/\sQ P f=true/\FE P f as E.s rs E.s)/\K (E.put d (.when (b==want) (fO rs)))
 |.when g (.bool b)=>∃rs,ko rs=true/\((g&&(b==want))=true->∃f as,callee x args (g&&(b==want)) E f as/\sQ P f=true/\FE P f as E.s rs E.s)/\K (E.put d (.when (g&&(b==want)) (fO rs)))
 |_=>False
def Jq(f:Nat)(args:List IX)(want:Bool)(E:St)(d:Option Nat)(K:St->Prop):AV->Prop
 |.bool b=>∃rs,ko rs=true/\((b==want)=true->∃as,cL (xg (b==want) E) args=some as/\FE P f as E.s rs E.s)/\K (E.put d (.when (b==want) (fO rs)))
 |.when g (.bool b)=>∃rs,ko rs=true/\((g&&(b==want))=true->∃as,cL (xg (g&&(b==want)) E) args=some as/\FE P f as E.s rs E.s)/\K (E.put d (.when (g&&(b==want)) (fO rs)))
 |_=>False
def ale(E:St)(d:Option Nat)(K:St->Prop):AV->Prop
 |.sl _ sz _ cs=>sz=1/\∃s:List UInt8,cs=(s.map fun c=>.int .u8 c.toNat)/\K (E.put d (.str s))
 |_=>False
def WS:AV->PR
 |.str s=>.c8 (.sl (aho s) 1 s.length (s.map fun c=>.int .u8 c.toNat))
 |_=>.no
def HA(sz n:Nat):Option (List AV)->PR
 |some cs=>.prt (cs.length=n*sz) (.sl true sz n cs)
 |none=>.no
def qe(f:IX->AV)(s:ae):rF->PR
 |.ik sz n zero parts=>HA sz n (fill f zero parts)
 |.lookup kk zero ok x k=>kN kk zero ok s (f k) (f x)
 |.oY x=>FY (f x)
 |.vJ x=>EH (f x)
 |_=>.no
def P2(o:rF)(want:Bool)(E:St):AV->PR
 |.bool b=>Sl (b==want) (qe (xg (b==want) E) E.s o)
 |.when g (.bool b)=>Sl (g&&(b==want)) (qe (xg (g&&(b==want)) E) E.s o)
 |_=>.no
def EW(o:ar)(E:St):PR:=match o.g with
 |none=>qe (xg true E) E.s o.op
 |some (t,want)=>P2 o.op want E (look E.e t)
def q1(o:ar)(E:St)(K:St->Prop):Prop:=
 match o with
 |⟨d,.call f args,none⟩=>Vu P f E d K (cL (xg true E) args)
 |⟨d,.px true x,none⟩=>UU E x d K (E.x x)
 |⟨d,.call f args,some (t,want)⟩=>Jq P f args want E d K (look E.e t)
 |⟨d,.iL x args,none⟩=>Oj P E (cL (xg true E) args) d K (xg true E x)
 |⟨d,.iL x args,some (t,want)⟩=>Jr P x args want E d K (look E.e t)
 |⟨d,.ik sz n zero parts,g⟩=>qK E d K (EW ⟨d,.ik sz n zero parts,g⟩ E)
 |⟨d,.lookup kk zero ok x k,g⟩=>qK E d K (EW ⟨d,.lookup kk zero ok x k,g⟩ E)
 |⟨d,.oY x,g⟩=>qK E d K (EW ⟨d,.oY x,g⟩ E)
 |⟨d,.vJ x,g⟩=>qK E d K (EW ⟨d,.vJ x,g⟩ E)
 |o=>qK E o.dst K (qv o E)
def bn(E:St):Option Nat->Bool
 |some d=>bF (look E.e d)
 |none=>true
def qwp:Nat->List ar->St->(St->Prop)->Prop
 |0,l,E,K=>swp P l E K
 |_+1,[],E,K=>K E
 |q+1,o::r,E,K=>bn E o.dst=true/\q1 P o E (fun τ=>qwp q r τ K)
def ahZ(q:Nat)(r:List ar)(K:St->Prop)(τ:St):Prop:=qwp P q r τ K
def nO(c:Nat):AV->Bool
 |.lp t _=>!Nat.beq t c
 |.when _ v=>nO c v
 |_=>true
def xh:List Nat->AV->Bool
 |[],_=>true
 |c::T,a=>nO c a&&xh T a
def kF(T:List Nat):List (Nat×AV)->Bool
 |[]=>true
 |p::e=>xh T p.2&&kF T e
def aa4(n:Nat)(E:St)(c:Nat)(x:IX)(K:St->Prop):AV->Prop
 |.loc jh=>jh.length=n/\dF (E.x x)=true/\(bC (E.x x)).length=n/\K ((E.drain x).put (some c) (.loc (bC (E.x x))))
 |_=>False
def q2(o:ar)(E:St)(K:St->Prop):Prop:=
 match o with
 |⟨none,.store n (.t c) x,none⟩=>aa4 n E c x K (look E.e c)
 |⟨some d,.kj z,none⟩=>bF (look E.e d)=true/\mn E.lp (some d)=true/\K (E.put (some d) (.loc z))
 |⟨some d,.append sz bytes x y,none⟩=>bF (look E.e d)=true/\mM sz bytes E x (some d) K (E.x x) (E.x y)
 |⟨some d,.nL off (.t i) x,none⟩=>bF (look E.e d)=true/\Di (.t i) off (E.x x)=true/\sf E (some d) K (E.x x)
 |⟨_,.store _ _ _,_⟩=>False
 |⟨_,.kj _,_⟩=>False
 |⟨_,.append _ _ _ _,_⟩=>False
 |⟨_,.nL _ _ _,_⟩=>False
 |o=>bn E o.dst=true/\q1 P o E K
def Fz(T:List Nat):Nat->List ar->St->(St->Prop)->Prop
 |0,l,E,K=>swp P l E K
 |_+1,[],E,K=>K E
 |q+1,o::r,E,K=>q2 P o E (fun τ=>kF T τ.e=true/\Fz T q r τ K)
def aa6(T:List Nat)(q:Nat)(r:List ar)(K:St->Prop)(τ:St):Prop:=kF T τ.e=true/\Fz P T q r τ K
def pz:AV->Bool
 |.ref _ _=>false
 |.when _ a=>pz a
 |_=>true
def nj(o:ar)(E:St):Bool:=match o.op with
 |.load _ _ x=>pz (E.x x)
 |.kE _ _ _=>false
 |.nN _ _=>false
 |.lookup _ _ _ _ _=>false
 |.call _ _=>false
 |.iL _ _=>false
 |.len c _=>!Nat.beq c 2
 |_=>true
def zt(f:Nat)(s:ae)(C:AV->ae->Prop):Option (List AV)->Prop
 |some args=>FN P f args s (fun rs s'=>ko rs=true/\C (fO rs) s')
 |none=>False
def Kj(f:Nat)(first fC:List AV)(s:ae)(C:AV->ae->Prop):Option (List AV)->Prop
 |some args=>sQ P f=true/\FN P f (first++args++fC) s (fun rs s'=>ko rs=true/\C (fO rs) s')
 |none=>False
def uJ(args:Option (List AV))(s:ae)(C:AV->ae->Prop):AV->Prop
 |.fn f first fC=>Kj P f first fC s C args
 |_=>False
def tu(bytes:Nat)(zero:List AV)(s:ae)(C:AV->ae->Prop):AV->AV->Prop
 |.int _ l,.int _ c=>0<=l/\l<=c/\c*bytes<=room/\∀b,s b=none->C (.arr b 0 l.toNat c.toNat) (s.set b (.cells ((List.replicate c.toNat zero).flatten)))
 |_,_=>False
def afS(n:Nat)(s:ae)(C:AV->ae->Prop)(a:AV):Prop:=dF a=true/\(cellsOf a).length=n/\∀b,s b=none->C (.ref b 0) (s.set b (.cells (views (cellsOf a))))
def OV(b off:Nat)(news:List AV)(s:ae)(C:AV->ae->Prop):Option SO->Prop
 |some (.cells jh)=>off+news.length<=jh.length/\C (.iJ []) (s.set b (.cells (setAt jh off news)))
 |_=>False
def LN:AV->Bool
 |.sl true _ _ _=>false
 |.bb _ _ _=>false
 |_=>true
def pV(n:Nat)(s:ae)(C:AV->ae->Prop)(v:AV):AV->Prop
 |.ref b off=>dF v=true/\LN v=true/\(bC v).length=n/\OV b off (bC v) s C (s b)
 |_=>False
def MX(kk:mb)(b:Nat)(s:ae)(k v:AV)(C:AV->ae->Prop):Option SO->Prop
 |some (.map es)=>(dF v=true/\ft kk k=true/\kV kk es=true)/\C (.iJ []) (s.set b (.map (uk (view k) (view v) es)))
 |_=>False
def Gp(kk:mb)(s:ae)(k v:AV)(C:AV->ae->Prop):AV->Prop
 |.mp b=>MX kk b s k v C (s b)
 |_=>False
def uK(b off:Nat)(s:ae)(C:AV->ae->Prop):Option SO->Prop
 |some (.cells cs)=>kH off cs fun cs' a=>C a (s.set b (.cells cs'))
 |_=>False
def oP(s:ae)(C:AV->ae->Prop):AV->Prop
 |.ref b off=>uK b off s C (s b)
 |_=>False
def sP(o:rF)(E:St)(C:AV->ae->Prop):Prop:=match o with
 |.call f args=>zt P f E.s C (cL (xg true E) args)
 |.iL x args=>uJ P (cL (xg true E) args) E.s C (xg true E x)
 |.lP _ bytes zero l c=>tu bytes zero E.s C (xg true E l) (xg true E c)
 |.makeMap=>∀b,E.s b=none->C (.mp b) (E.s.set b (.map []))
 |.nv zero=>∀b,E.s b=none->C (.ref b 0) (E.s.set b (.cells zero))
 |.Bq n x=>afS n E.s C (xg true E x)
 |.store n p v=>pV n E.s C (E.x v) (E.x p)
 |.mapUpdate kk x k v=>Gp kk E.s (xg true E k) (xg true E v) C (xg true E x)
 |.nK x=>oP E.s C (E.x x)
 |_=>False
def Sy(E:St)(d:Option Nat)(K:St->Prop)(a:AV)(s':ae):Prop:=K ({E with s:=s'}.put d a)
def WA(o:ar)(E:St)(K:St->Prop):Prop:=match o.g with
 |none=>bn E o.dst=true/\sP P o.op E (Sy E o.dst K)
 |some _=>False
def ME(T:List Nat):List (Nat×Nat×ar)->St->(St->Prop)->Prop
 |[],E,K=>K E
 |(0,_,o)::r,E,K=>q2 P o E (fun τ=>kF T τ.e=true/\ME T r τ K)
 |(1,_,o)::r,E,K=>nj o E=true/\q2 P o E (fun τ=>kF T τ.e=true/\ME T r τ K)
 |(2,_,o)::r,E,K=>WA P o E (fun τ=>kF T τ.e=true/\ME T r τ K)
 |(_+3,_,o)::r,E,K=>MF P o E (fun τ=>kF T τ.e=true/\ME T r τ K)
def SE(T:List Nat)(r:List (Nat×Nat×ar))(K:St->Prop)(τ:St):Prop:=kF T τ.e=true/\ME P T r τ K
def vO:List Bool->List Bool->Bool
 |d::r,x::s=>(!d||x)&&vO r s
 |_,_=>true
def xE:List Bool->List Bool->List Bool
 |[],s=>s
 |x::p,s=>xE p (x::s)
def OL(done:List Bool):List (List Bool)->List Bool->List Bool->List ar->(ar->List Bool->Prop)->Prop
 |row::rows,pre,x::xs,o::r,F=>(bif !x&&vO row done then F o (xE pre (true::xs))else True)/\OL done rows (x::pre) xs r F
 |_,_,_,_,_=>True
def xD:List ar->List Bool
 |[]=>[]
 |_::r=>false::xD r
def Sa(iH:List (List Bool))(ops:List ar)(K:St->Prop):List ar->List Bool->St->Prop
 |[],_,E=>K E
 |_::f,done,E=>OL done iH [] done ops (fun o d=>MF P o E (fun τ=>Sa iH ops K f d τ))
def aiJ(iH:List (List Bool))(ops:List ar)(K:St->Prop)(f:List ar)(done:List Bool)(τ:St):Prop:=Sa P iH ops K f done τ
def An(live:List Nat)(Q:Exit->St->Prop)(τ:St):Prop:=Q .normal (τ.xc live)
def Qx(id:Nat)(Q:Exit->St->Prop):Exit->St->Prop
 |.exit i,τ=>bif i==id then Q .normal τ else Q (.exit i) τ
 |x,τ=>Q x τ
def Hh(live:List (Nat×Bool))(I:St->Prop)(μ:St->Nat)(m:Nat)(Q:Exit->St->Prop):Exit->St->Prop
 |.normal,ρ=>I (ρ.fk live)/\μ (ρ.fk live)<m
 |x,ρ=>Q x ρ
def pX(live:List (Nat×Bool))(J:St->Prop)(Q:Exit->St->Prop):Exit->St->Prop
 |.normal,ρ=>J (ρ.fk live)
 |x,ρ=>Q x ρ
def JE(live:List (Nat×Bool))(I:St->Prop)(Q:Exit->St->Prop):Exit->St->Prop
 |.normal,ρ=>I (ρ.fk live)
 |.goto _,_=>False
 |x,ρ=>Q x ρ
def I0(l:Nat)(live:List (Nat×Bool))(I:St->Prop)(Q:Exit->St->Prop):Exit->St->Prop
 |.goto l',ρ=>l'=l/\I (ρ.fk live)
 |x,ρ=>Q x ρ
def fY:IC->(Exit->St->Prop)->St->Prop
 |.skip,Q,E=>Q .normal E
 |.EX q ops live,Q,E=>match q with
  |none=>swp P ops E (An live Q)
  |some q=>qwp P q ops E (An live Q)
 |.VE T q ops live,Q,E=>kF T E.e=true/\Fz P T q ops E (An live Q)
 |.RD T l live,Q,E=>kF T E.e=true/\ME P T l E (An live Q)
 |.YU iH ops live,Q,E=>Sa P iH ops (An live Q) ops (xD ops) E
 |.seq a b,Q,E=>fY a (fun x τ=>match x with|.normal=>fY b Q τ|x=>Q x τ) E
 |.cond c a b,Q,E=>match E.x c with
  |.bool v=>(v=true->fY a Q E)/\(v=false->fY b Q E)
  |_=>False
 |.block id b,Q,E=>fY b (Qx id Q) E
 |.loop live b,Q,E=>∃(I:St->Prop)(μ:St->Nat),I (E.fk live)/\∀τ,I τ->fY b (Hh live I μ (μ τ) Q) τ
 |.join live a b,Q,E=>∃J:St->Prop,fY a (pX live J Q) E/\∀τ,J τ->fY b Q τ
 |.exit id,Q,E=>Q (.exit id) E
 |.scope b,Q,E=>fY b (fun x τ=>match x with|.goto _=>False|x=>Q x τ) E
 |.Er l live a1 a2 a3 r,Q,E=>
  let K:=JE live (fun ρ=>∃(I:St->Prop)(μ:St->Nat),I ρ/\∀τ,I τ->fY r (I0 l live (fun ρ'=>I ρ'/\μ ρ'<μ τ) Q) τ) Q
  fY a1 (fun x τ=>match x with|.normal=>fY a2 (fun x τ=>match x with|.normal=>fY a3 K τ|x=>K x τ) τ|x=>K x τ) E
 |.label _,Q,E=>Q .normal E
 |.goto l,Q,E=>Q (.goto l) E
 |.ret,Q,E=>Q .ret E
 |.dead,_,_=>False
def WE(l:Nat)(live:List (Nat×Bool))(r:IC)(Q:Exit->St->Prop)(ρ:St):Prop:=∃(I:St->Prop)(μ:St->Nat),I ρ/\∀τ,I τ->fY P r (I0 l live (fun ρ'=>I ρ'/\μ ρ'<μ τ) Q) τ
def BW(b:IC)(Q:Exit->St->Prop):Exit->St->Prop
 |.normal,τ=>fY P b Q τ
 |x,τ=>Q x τ
def xA(Q:Exit->St->Prop):Exit->St->Prop
 |.goto _,_=>False
 |x,τ=>Q x τ
def O7(a b:IC)(Q:Exit->St->Prop)(E:St):AV->Prop
 |.bool v=>(v=true->fY P a Q E)/\(v=false->fY P b Q E)
 |_=>False
end
end Go.AB
end
