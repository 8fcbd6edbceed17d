/- A part. -/
import Derived.KernelRfl
import Derived.Orders
import Derived.Laws.Sem
import Derived.Attr
set_option linter.defProp false
set_option linter.unusedSimpArgs false
set_option linter.unusedVariables false
section
namespace Go.AB
open Go
section
variable{P:Prop}
theorem AT(h:P:=by omega):P:=h
theorem A_(h:P:=by grind):P:=h
theorem BY(h:P:=by decide):P:=h
theorem By(h:P:=by simp;omega):P:=h
theorem B_(h:P:=by simp):P:=h
theorem C_(h:P:=by kernel_rfl):P:=h
theorem DO(h:P:=by simp -implicitDefEqProofs only[go_sem,seval]<;>simp only[al]):P:=h
theorem D_(h:P:=by simp -implicitDefEqProofs only[go_sem,seval,aj ab,aj ab.symm,set_comm ab]<;>simp only[al]):P:=h
theorem E_(h:P:=by simpa using he):P:=h
theorem F_(h:P:=by cases h):P:=h
theorem G_(h:P:=by cases d<;>rfl):P:=h
theorem H_(h:P:=by rw[ak (by omega) (by omega)];omega):P:=h
theorem IF(h:P:=by first|rfl|simp):P:=h
theorem IN(h:P:=by simpa using h):P:=h
theorem I_(h:P:=by simp[he]):P:=h
theorem J_(h:P:=by grind [bN]):P:=h
theorem K_(h:P:=by simpa using h1):P:=h
theorem L_(h:P:=by simp at hc):P:=h
theorem M_(h:P:=by simpa using hc):P:=h
theorem N_(h:P:=by rw[List.length_take];omega):P:=h
theorem O_(h:P:=by rw[List.length_drop];omega):P:=h
theorem P_(h:P:=by simp_all):P:=h
theorem Q_(h:P:=by cases hcs):P:=h
theorem R_(h:P:=by simp -implicitDefEqProofs only[go_sem,seval]):P:=h
theorem S_(h:P:=by simpa using h0):P:=h
theorem T_(h:P:=by simp at hj):P:=h
theorem U_(h:P:=by rw[q2];simp):P:=h
theorem V_(h:P:=by decide+kernel):P:=h
theorem W_(h:P:=by rfl):P:=h
theorem X_(h:P:=by simp[ff]):P:=h
theorem Y_(h:P:=by simpa using h2):P:=h
theorem Z_(h:P:=by rw[ak (by omega) (by omega)];rfl):P:=h
theorem aT(h:P:=by cases e):P:=h
theorem bY(h:P:=by cases h;rfl):P:=h
theorem c_(h:P:=by simpa using hlt):P:=h
theorem d_(h:P:=by grind [ak]):P:=h
theorem f_(h:P:=by first|exact zX _ _ _ _ _|exact xW _ _ _ _|exact xX _ _ _):P:=h
theorem g_(h:P:=by rw[dQ];rfl):P:=h
theorem h_(h:P:=by simp[Builtin.firstCells]):P:=h
theorem iF(h:P:=by rw[hb];simp):P:=h
theorem iN(h:P:=by simp[ff,hy]):P:=h
theorem i_(h:P:=by simpa using hx):P:=h
theorem j_(h:P:=by unfold cD;simp;omega):P:=h
theorem k_(h:P:=by rw[hl];omega):P:=h
theorem n_(h:P:=by simpa using hk):P:=h
theorem o_(h:P:=by cases z<;>exact hz2):P:=h
theorem p_(h:P:=by simp[St.put,bA]):P:=h
theorem q_(h:P:=by subst hk;simp[execOp,e1,e2,eqGuard,binOp,Op.intCmp]):P:=h
theorem r_(h:P:=by simp[views]):P:=h
theorem s_(h:P:=by simp at hx):P:=h
theorem t_(h:P:=by simp[G',hb']):P:=h
theorem u_(h:P:=by cases hx):P:=h
theorem v_(h:P:=by simp[ae.set,sN1]):P:=h
theorem w_(h:P:=by show deep<=_;omega):P:=h
theorem x_(h:P:=by show(o++_).length<=_;simp;omega):P:=h
theorem y_(h:P:=by simp<;>omega):P:=h
theorem z_(h:P:=by rw[hsz];decide):P:=h
theorem Ω(h:P:=by obtain⟨_,_,_,hf⟩:=hat;exact hf):P:=h
theorem Ψ(h:P:=by cases yV):P:=h
theorem Φ(h:P:=by simpa using fN.qA):P:=h
theorem Ξ(h:P:=by grind [ae.set]):P:=h
theorem Δ(h:P:=by simp[r1]):P:=h
theorem Θ(h:P:=by simp only;omega):P:=h
theorem Γ(h:P:=by rw[hc];decide):P:=h
theorem ψ(h:P:=by simpa using hne):P:=h
theorem ξ(h:P:=by unfold gh;rw[if_neg (by omega)]):P:=h
theorem θ(h:P:=by rw[hL];omega):P:=h
theorem ζ(h:P:=by rw[hk];rfl):P:=h
theorem η(h:P:=by cases b<;>rfl):P:=h
theorem υ(h:P:=by subst hk;simp[execOp,e1,e2,eqGuard,binOp,Op.intBits]):P:=h
theorem χ(h:P:=by subst hi;rfl):P:=h
theorem ω(h:P:=by subst hn;rfl):P:=h
theorem Xa0(h:P:=by simpa[World.setRow]using hb'):P:=h
theorem Xa1(h:P:=by have:=(List.getElem?_eq_some_iff.1 hj).1;omega):P:=h
theorem Xa2(h:P:=by cases d<;>simp[AM]):P:=h
theorem Xa3(h:P:=by simpa using fN.len):P:=h
theorem Xa4(h:P:=by rw[u1,hcl]):P:=h
theorem Xa5(h:P:=by rw[u1,hlen]):P:=h
theorem Xa6(h:P:=by rw[hl];rfl):P:=h
theorem Xa7(h:P:=by grind [sa]):P:=h
theorem Xa8(h:P:=by rw[hσ];exact cc):P:=h
theorem Xa9(h:P:=by unfold xA;simp only[h]):P:=h
theorem Xb0(h:P:=by rw[k4];omega):P:=h
theorem Xb1(h:P:=by rw[hl5];omega):P:=h
theorem Xb2(h:P:=by simpa using hx2):P:=h
theorem Xb3(h:P:=by refine nJ ?_ ((c6 eV h:));simp -implicitDefEqProofs only[go_sem,seval]):P:=h
theorem Xb4(h:P:=by assumption):P:=h
theorem Xb5(h:P:=by simp[he];omega):P:=h
theorem Xb6(h:P:=by simpa using htm):P:=h
theorem Xb7(h:P:=by rw[hle];omega):P:=h
theorem Xb8(h:P:=by simpa using h17):P:=h
theorem Xb9(h:P:=by simp at h;omega):P:=h
theorem Xc0(h:P:=by rw[h2.2.2.2.2.1];exact hz1.2):P:=h
theorem Xc1(h:P:=by rw[ok_none];exact fun h=>h):P:=h
theorem Xc2(h:P:=by show di ⟨_,b,ao ((j:Int)+1),_⟩ c=_;rw[hw];exact te):P:=h
theorem Xc3(h:P:=by have:=h.1;unfold cD at this;simp at this;omega):P:=h
theorem Xc4(h:P:=by grind [nI]):P:=h
theorem Xc5(h:P:=by show¬(t.Kind==0)=true;simp;omega):P:=h
theorem Xc6(h:P:=by subst hk;simp[execOp,e1,e2,eqGuard,binOp,Op.intArith,kn]):P:=h
theorem Xc7(h:P:=by simp[Array.getD_eq_getD_getElem?,hlt]):P:=h
theorem Xc8(h:P:=by simp[ByteArray.size]):P:=h
theorem Xc9(h:P:=by rw[h.size];exact hin):P:=h
theorem Xd0(h:P:=by cases d<;>exact h1):P:=h
theorem Xd1(h:P:=by cases d<;>exact this):P:=h
theorem Xd2(h:P:=by grind [laid]):P:=h
theorem Xd3(h:P:=by funext x;cases x<;>rfl):P:=h
theorem Xd4(h:P:=by unfold flat;simp):P:=h
theorem Xd5(h:P:=by simpa using h'):P:=h
theorem Xd6(h:P:=by first|(simp -implicitDefEqProofs only[go_sem,seval,hgG0];done)|(simp -implicitDefEqProofs only[go_sem,seval,hgG1];done)|(simp -implicitDefEqProofs only[go_sem,seval,hgG2];done)|(simp -implicitDefEqProofs only[go_sem,seval];done)):P:=h
theorem Xd7(h:P:=by rw[<-hQ];exact⟨s2,h1,h2⟩):P:=h
theorem Xd8(h:P:=by rw[Nat.zero_add];exact hr):P:=h
theorem Xd9(h:P:=by rw[jl,Nat.zero_add];rfl):P:=h
theorem Xe0(h:P:=by rw[h7];exact cc):P:=h
theorem Xe1(h:P:=by rw[h7,po h2];exact Sub.refl s):P:=h
theorem Xe2(h:P:=by rw[h2];exact Sub.refl s):P:=h
theorem Xe3(h:P:=by rw[Int.tmod_eq_emod_of_nonneg (by omega)];rfl):P:=h
theorem Xe4(h:P:=by rw[hok.1];omega):P:=h
theorem Xe5(h:P:=by rw[List.length_append];omega):P:=h
theorem Xe6(h:P:=by rw[<-hL];simp;omega):P:=h
theorem Xe7(h:P:=by rw[<-hAB];simp):P:=h
theorem Xe8(h:P:=by have:=of_decide_eq_true hx;omega):P:=h
theorem Xe9(h:P:=by have:=of_decide_eq_false hx;omega):P:=h
theorem Xf0(h:P:=by rw[aj hne.symm];exact h1):P:=h
theorem Xf1(h:P:=by rw[eK hk];exact List.getElem_mem _):P:=h
theorem Xf2(h:P:=by subst hs2;split;exact⟨rfl,rfl⟩;exact⟨hf.1,hf.2.1⟩):P:=h
theorem Xf3(h:P:=by rw[h2.1];exact hz.1):P:=h
theorem Xf4(h:P:=by simpa using g2):P:=h
theorem Xf5(h:P:=by rw[h2.2.2.2.2.1,hto]):P:=h
theorem Xf6(h:P:=by simpa using h18):P:=h
theorem Xf7(h:P:=by rw[hbd,hdv];rfl):P:=h
theorem Xf8(h:P:=by rw[h1.2.2.2.2.1];exact hz.2):P:=h
theorem Xf9(h:P:=by simp at hc;omega):P:=h
theorem Xg0(h:P:=by rw[Int.tdiv_eq_ediv_of_nonneg (by omega)];omega):P:=h
theorem Xg1(h:P:=by rw[hd,si,rV]):P:=h
theorem Xg2(h:P:=by simpa using h62):P:=h
theorem Xg3(h:P:=by unfold I6;grind):P:=h
theorem Xg4(h:P:=by show decide (_<(S.length:Int))=true;simp;omega):P:=h
theorem Xg5(h:P:=by show _/\_<(S.length:Int);omega):P:=h
theorem Xg6(h:P:=by have:=hT.1;omega):P:=h
theorem Xg7(h:P:=by show((t.Kind==2)||(t.Kind==4))=true;simp;omega):P:=h
variable{Q:Prop}
theorem Xg8{A:Prop}(a:A)(h:Q)(i:A->Q->P:=by intro a h;simp -implicitDefEqProofs only[go_sem,Nat.reduceBEq,Nat.reduceAdd,Nat.reduceMul,Nat.reduceLeDiff,Nat.reduceEqDiff,Nat.reduceBNe,UInt8.reduceToNat,UInt32.reduceToNat,a];exact h):P:=i a h
theorem Xg9{A B:Prop}(a:A)(b:B)(h:Q)(i:A->B->Q->P:=by intro a b h;simp -implicitDefEqProofs only[go_sem,Nat.reduceBEq,Nat.reduceAdd,Nat.reduceMul,Nat.reduceLeDiff,Nat.reduceEqDiff,Nat.reduceBNe,UInt8.reduceToNat,UInt32.reduceToNat,set_set,a,b];exact h):P:=i a b h
theorem Xh0(h:Q)(i:Q->P:=by intro h;simp -implicitDefEqProofs only[go_sem,Nat.reduceBEq,Nat.reduceAdd,Nat.reduceMul,Nat.reduceLeDiff,Nat.reduceEqDiff,Nat.reduceBNe,UInt8.reduceToNat,UInt32.reduceToNat];exact h):P:=i h
theorem Xh1{A:Prop}(a:A)(h:Q)(i:A->Q->P:=by intro a h;simp -implicitDefEqProofs only[go_sem,Nat.reduceBEq,Nat.reduceAdd,Nat.reduceMul,Nat.reduceLeDiff,Nat.reduceEqDiff,Nat.reduceBNe,UInt8.reduceToNat,UInt32.reduceToNat,set_set,a];exact h):P:=i a h
theorem Xh2(h:Q)(i:Q->P:=by intro h;simp -implicitDefEqProofs only[go_sem,seval];exact h):P:=i h
theorem Xh3(i:P:=by simp -implicitDefEqProofs only[go_sem,seval]):P:=i 
theorem Xh4(h:Q)(i:Q->P:=by intro h;(conv in dec _=>reduce);exact h):P:=i h
theorem Xh5{A:Prop}(a:A)(h:Q)(i:A->Q->P:=by intro a h;simp -implicitDefEqProofs only[go_sem,seval,a];exact h):P:=i a h
theorem Xh6{A:Prop}(a:A)(h:Q)(i:A->Q->P:=by intro a h;simp -implicitDefEqProofs only[go_sem,seval,bL,a];exact h):P:=i a h
theorem Xh7{A B C D E F G:Prop}(a:A)(b:B)(c:C)(d:D)(e:E)(f:F)(g:G)(h:Q)(i:A->B->C->D->E->F->G->Q->P:=by intro a b c d e f g h;simp -implicitDefEqProofs only[go_sem,seval,bL,a,b,c,d,e,f,g];exact h):P:=i a b c d e f g h
theorem Xh8(h:Q)(i:Q->P:=by intro h;simp -implicitDefEqProofs only[go_sem,seval,bL];exact h):P:=i h
theorem Xh9{A B C D E F:Prop}(a:A)(b:B)(c:C)(d:D)(e:E)(f:F)(h:Q)(i:A->B->C->D->E->F->Q->P:=by intro a b c d e f h;simp -implicitDefEqProofs only[go_sem,seval,bL,a,b,c,d,e,f];exact h):P:=i a b c d e f h
theorem Xi0{A B C D E F G H I:Prop}(a:A)(b:B)(c:C)(d:D)(e:E)(f:F)(g:G)(k:H)(l:I)(h:Q)(i:A->B->C->D->E->F->G->H->I->Q->P:=by intro a b c d e f g k l h;simp -implicitDefEqProofs only[go_sem,seval,bL,a,b,c,d,e,f,g,k,l];exact h):P:=i a b c d e f g k l h
theorem Xi1{A B:Prop}(a:A)(b:B)(h:Q)(i:A->B->Q->P:=by intro a b h;simp -implicitDefEqProofs only[go_sem,seval,a,b];exact h):P:=i a b h
theorem Xi2{A B:Prop}(a:A)(b:B)(h:Q)(i:A->B->Q->P:=by intro a b h;simp -implicitDefEqProofs only[go_sem,seval,bL,a,b];exact h):P:=i a b h
theorem Xi3{A B C D E F G H:Prop}(a:A)(b:B)(c:C)(d:D)(e:E)(f:F)(g:G)(k:H)(h:Q)(i:A->B->C->D->E->F->G->H->Q->P:=by intro a b c d e f g k h;simp -implicitDefEqProofs only[go_sem,seval,bL,a,b,c,d,e,f,g,k];exact h):P:=i a b c d e f g k h
theorem Xi4{A B C:Prop}(a:A)(b:B)(c:C)(h:Q)(i:A->B->C->Q->P:=by intro a b c h;simp -implicitDefEqProofs only[go_sem,seval,bL,a,b,c];exact h):P:=i a b c h
theorem Xi5{A B C D:Prop}(a:A)(b:B)(c:C)(d:D)(h:Q)(i:A->B->C->D->Q->P:=by intro a b c d h;simp -implicitDefEqProofs only[go_sem,Nat.reduceBEq,Nat.reduceAdd,Nat.reduceMul,Nat.reduceLeDiff,Nat.reduceEqDiff,Nat.reduceBNe,UInt8.reduceToNat,UInt32.reduceToNat,bL,a,b,c,d];exact h):P:=i a b c d h
theorem Xi6{A B C D E:Prop}(a:A)(b:B)(c:C)(d:D)(e:E)(h:Q)(i:A->B->C->D->E->Q->P:=by intro a b c d e h;simp -implicitDefEqProofs only[go_sem,seval,bL,a,b,c,d,e];exact h):P:=i a b c d e h
theorem Xi7{A B C D:Prop}(a:A)(b:B)(c:C)(d:D)(h:Q)(i:A->B->C->D->Q->P:=by intro a b c d h;simp -implicitDefEqProofs only[go_sem,seval,bL,a,b,c,d];exact h):P:=i a b c d h
theorem Xi8(h:Q)(i:Q->P:=by intro h;simp -implicitDefEqProofs only[go_sem,Nat.reduceBEq,Nat.reduceAdd,Nat.reduceMul,Nat.reduceLeDiff,Nat.reduceEqDiff,Nat.reduceBNe,UInt8.reduceToNat,UInt32.reduceToNat,bL];exact h):P:=i h
theorem Xi9{A:Prop}(a:A)(i:A->P:=by intro a;simp -implicitDefEqProofs only[go_sem,seval,a]):P:=i a
theorem Xj0{A:Prop}(a:A)(h:Q)(i:A->Q->P:=by intro a h;simp -implicitDefEqProofs only[go_sem,seval,set_set,bL,a];exact h):P:=i a h
theorem Xj1{A B C:Prop}(a:A)(b:B)(c:C)(h:Q)(i:A->B->C->Q->P:=by intro a b c h;simp -implicitDefEqProofs only[go_sem,seval,bL,Bool.true_or,Bool.or_true,Bool.or_false,a,b,c];exact h):P:=i a b c h
theorem Xj2{A B C D E:Prop}(a:A)(b:B)(c:C)(d:D)(e:E)(h:Q)(i:A->B->C->D->E->Q->P:=by intro a b c d e h;simp -implicitDefEqProofs only[go_sem,seval,bL,Bool.true_or,Bool.or_true,Bool.or_false,a,b,c,d,e];exact h):P:=i a b c d e h
theorem Xj3{A B:Prop}(a:A)(b:B)(h:Q)(i:A->B->Q->P:=by intro a b h;simp -implicitDefEqProofs only[go_sem,seval,bL,Bool.true_or,Bool.or_true,Bool.or_false,a,b];exact h):P:=i a b h
theorem Xj4{A B:Prop}(a:A)(b:B)(h:Q)(i:A->B->Q->P:=by intro a b h;simp -implicitDefEqProofs only[go_sem,seval,Bool.or_true,bL,a,b];exact h):P:=i a b h
theorem Xj5{A B C:Prop}(a:A)(b:B)(c:C)(h:Q)(i:A->B->C->Q->P:=by intro a b c h;simp -implicitDefEqProofs only[go_sem,Nat.reduceBEq,Nat.reduceAdd,Nat.reduceMul,Nat.reduceLeDiff,Nat.reduceEqDiff,Nat.reduceBNe,UInt8.reduceToNat,UInt32.reduceToNat,bL,a,b,c];exact h):P:=i a b c h
theorem Xj6{A:Prop}(a:A)(h:Q)(i:A->Q->P:=by intro a h;simp -implicitDefEqProofs only[go_sem,Nat.reduceBEq,Nat.reduceAdd,Nat.reduceMul,Nat.reduceLeDiff,Nat.reduceEqDiff,Nat.reduceBNe,UInt8.reduceToNat,UInt32.reduceToNat,bL,a];exact h):P:=i a h
theorem Xj7{A B:Prop}(a:A)(b:B)(h:Q)(i:A->B->Q->P:=by intro a b h;simp -implicitDefEqProofs only[go_sem,Nat.reduceBEq,Nat.reduceAdd,Nat.reduceMul,Nat.reduceLeDiff,Nat.reduceEqDiff,Nat.reduceBNe,UInt8.reduceToNat,UInt32.reduceToNat,bL,a,b];exact h):P:=i a b h
theorem Xj8{A B C D E F G H I:Prop}(a:A)(b:B)(c:C)(d:D)(e:E)(f:F)(g:G)(k:H)(l:I)(h:Q)(i:A->B->C->D->E->F->G->H->I->Q->P:=by intro a b c d e f g k l h;simp -implicitDefEqProofs only[go_sem,Nat.reduceBEq,Nat.reduceAdd,Nat.reduceMul,Nat.reduceLeDiff,Nat.reduceEqDiff,Nat.reduceBNe,UInt8.reduceToNat,UInt32.reduceToNat,bL,a,b,c,d,e,f,g,k,l];exact h):P:=i a b c d e f g k l h
theorem Xj9{A B C D E F G H I J K L:Prop}(a:A)(b:B)(c:C)(d:D)(e:E)(f:F)(g:G)(k:H)(l:I)(m:J)(n:K)(o:L)(h:Q)(i:A->B->C->D->E->F->G->H->I->J->K->L->Q->P:=by intro a b c d e f g k l m n o h;simp -implicitDefEqProofs only[go_sem,seval,bL,a,b,c,d,e,f,g,k,l,m,n,o];exact h):P:=i a b c d e f g k l m n o h
theorem Xk0{A B C D E F G H:Prop}(a:A)(b:B)(c:C)(d:D)(e:E)(f:F)(g:G)(k:H)(h:Q)(i:A->B->C->D->E->F->G->H->Q->P:=by intro a b c d e f g k h;simp -implicitDefEqProofs only[go_sem,Nat.reduceBEq,Nat.reduceAdd,Nat.reduceMul,Nat.reduceLeDiff,Nat.reduceEqDiff,Nat.reduceBNe,UInt8.reduceToNat,UInt32.reduceToNat,bL,a,b,c,d,e,f,g,k];exact h):P:=i a b c d e f g k h
end
inductive AV where
 |undef
 |bool (b:Bool)
 |int (k:IntKind) (n:Int)
 |str (s:List UInt8)
 |fO
 |ref (b off:Nat)
 |lp (d off:Nat)
 |sp (cs:List AV)
 |loc (cs:List AV)
 |sl (own:Bool) (sz n:Nat) (cs:List AV)
 |arr (b off len cap:Nat)
 |agg (cs:List AV)
 |jV (vs:List AV)
 |fn (f:Nat) (first jv:List AV)
 |p8
 |mp (b:Nat)
 |tH
 |when (b:Bool) (a:AV)
 |us (sz n:Nat) (cs:List AV)
 |one
 |oo (t:Nat)
 |l9
 |bb (t n:Nat) (cs:List AV)
 deriving Inhabited
inductive SO where
 |cells (cs:List AV)
 |map (es:List (AV×AV))
 deriving Inhabited
abbrev ae:=Nat->Option SO
def ae.set(s:ae)(b:Nat)(o:SO):ae:=fun i=>if i=b then some o else s i
def ae.del(s:ae)(b:Nat):ae:=fun i=>if i=b then none else s i
inductive FK where
 |int (k:IntKind)
 |str
 |bool
 |bytes (n:Nat)
 deriving Inhabited
inductive IX where
 |t (i:Nat)
 |c (a:AV)
 deriving Inhabited
inductive sj where
 |oU (tr:Bool) (x:IX)
 |pick (c x y:IX)
 |lQ (zero:List AV)
 |nv (zero:List AV)
 |HJ (n:Nat) (x:IX)
 |Ad (n:Nat) (x:IX)
 |build (zero:List AV) (parts:List (Nat×Nat×IX))
 |iZ (sz len:Nat) (zero:List AV) (parts:List (Nat×Nat×IX))
 |load (n:Nat) (multi:Bool) (x:IX)
 |store (n:Nat) (p v:IX)
 |nilCheck (x:IX)
 |bin (op:BinOp) (x y:IX)
 |UU (ne:Bool) (x y:IX)
 |NM (ne:Bool) (x y:IX)
 |Rk (ne:Bool) (x y:IX)
 |un (op:UnOp) (x:IX)
 |ko (k:IntKind) (x:IX)
 |jM (x:IX)
 |iw (x:IX)
 |kv (x i:IX)
 |fieldAddr (off:Nat) (x:IX)
 |indexAddr (zero:List AV) (x i:IX)
 |jJ (sz len:Nat) (x i:IX)
 |slice (sz:Nat) (x:IX) (lo hi mx:Option IX)
 |ny (x:IX) (lo hi:Option IX)
 |extract (x:IX) (k:Nat)
 |len (cls:Nat) (x:IX)
 |cap (x:IX)
 |mD (mx:Bool) (xs:List IX)
 |append (sz bytes:Nat) (x y:IX)
 |l8 (sz bytes:Nat) (zero:List AV) (l c:IX)
 |kj (zero:List AV) (multi:Bool) (x:IX)
 |my (x:IX)
 |ve (x:IX)
 |call (f:Nat) (args:List IX)
 |iq (x:IX) (args:List IX)
 |tG (f:Nat) (first jv:List IX)
 |mZ (sz len:Nat) (zero:List AV) (parts:List (Nat×Nat×IX))
 |pd (sz bytes:Nat) (zero:List AV) (x y:IX)
 |sO (zero:List AV) (x:IX)
 |R6 (sz:Nat) (own:Bool) (x:IX)
 |nE (x:IX)
 |UW (ne:Bool) (x:IX)
 |zF (f i:Nat) (args:List IX)
 |pj (sz bytes:Nat) (zero:List AV) (x y:IX)
 |HK (sz n:Nat) (x:IX)
 |nG (off:Nat) (j x:IX)
 |RZ (ne:Bool) (x:IX)
 |zU (sz:Nat) (own:Bool) (x:IX)
 |H8 (x:IX)
 |zG (f:Nat) (x:IX)
 |H7 (u:Nat) (x:IX)
 |HL (n t j u:Nat) (x:IX)
 |ph (t:Nat) (x y:IX)
 deriving Inhabited
structure aH where
 dst:Option Nat
 op:sj
 g:Option (Nat×Bool)
 deriving Inhabited
inductive IC where
 |skip
 |Vw (q:Option Nat) (ops:List aH) (live:List Nat)
 |TM (T:List Nat) (q:Nat) (ops:List aH) (live:List Nat)
 |Nn (T:List Nat) (l:List (Nat×Nat×aH)) (live:List Nat)
 |TN (iP:List (List Bool)) (ops:List aH) (live:List Nat)
 |seq (a b:IC)
 |cond (c:IX) (a b:IC)
 |block (id:Nat) (b:IC)
 |loop (live:List (Nat×Bool)) (b:IC)
 |join (live:List (Nat×Bool)) (a b:IC)
 |exit (id:Nat)
 |scope (b:IC)
 |Dq (l:Nat) (live:List (Nat×Bool)) (a1 a2 a3 r:IC)
 |label (l:Nat)
 |goto (l:Nat)
 |ret
 |dead
 deriving Inhabited
structure St where
 e:List (Nat×AV)
 lp:List (Nat×Nat)
 s:ae
def look:List (Nat×AV)->Nat->AV
 |[],_=>.undef
 |(j,a)::l,i=>bif j==i then a else look l i
def St.x(σ:St):IX->AV
 |.t i=>look σ.e i
 |.c a=>a
def St.put(σ:St)(d:Option Nat)(a:AV):St:=
 match d with
 |some d=>{σ with e:=(d,a)::σ.e}
 |none=>σ
def dU:AV->AV
 |.lp _ _=>.undef
 |.when _ _=>.undef
 |a=>a
def St.xJ(σ:St)(live:List Nat):St:={e:=live.map fun i=>(i,dU (look σ.e i)),lp:=[],s:=σ.s}
def view:AV->AV
 |.sl _ sz n cs=>.sl false sz n cs
 |.us _ _ _=>.undef
 |.oo _=>.fO
 |.bb _ n cs=>.sl false 1 n cs
 |a=>a
def Ra(b:Bool)(a:AV):AV:=bif b then view a else a
def St.fk(σ:St)(live:List (Nat×Bool)):St:={e:=live.map fun p=>(p.1,Ra p.2 (dU (look σ.e p.1))),lp:=[],s:=σ.s}
def inner:AV->Bool
 |.loc _=>false
 |.when _ _=>false
 |_=>true
def vK(g:Bool):AV->AV
 |.when b a=>bif((b==g)||b)&&inner a then a else .undef
 |a=>a
def Iw:Int:=9223372036854775807
def ee:AV->Bool
 |.undef=>false
 |.lp _ _=>false
 |.loc _=>false
 |.jV _=>false
 |.when _ _=>false
 |.us _ _ _=>false
 |.oo _=>false
 |_=>true
def kn(k:IntKind)(n:Int):Int:=k.wrap n
inductive PR where
 |dG (a:AV)
 |fY (c:Prop) (a:AV)
 |no
def SH(k k':IntKind):Bool:=decide (k=k')
def kk(k k':IntKind)(r:PR):PR:=bif SH k k' then r else .no
def su(op:BinOp)(k k':IntKind)(a b:Int):PR:=
 match op with
 |.shl=>.fY (0<=b) (.int k (kn k (a*2^(min b.toNat k.bits))))
 |.shr=>.fY (0<=b) (.int k (a.fdiv (2^(min b.toNat k.bits))))
 |.add=>kk k k' (.dG (.int k (kn k (a+b))))
 |.sub=>kk k k' (.dG (.int k (kn k (a -b))))
 |.mul=>kk k k' (.dG (.int k (kn k (a*b))))
 |.quo=>kk k k' (.fY (b≠0) (.int k (kn k (a.tdiv b))))
 |.rem=>kk k k' (.fY (b≠0) (.int k (a.tmod b)))
 |.and=>kk k k' (.dG (.int k (k.wrap (BitVec.ofInt k.bits a&&&BitVec.ofInt k.bits b).toNat)))
 |.or=>kk k k' (.dG (.int k (k.wrap (BitVec.ofInt k.bits a |||BitVec.ofInt k.bits b).toNat)))
 |.xor=>kk k k' (.dG (.int k (k.wrap (BitVec.ofInt k.bits a^^^BitVec.ofInt k.bits b).toNat)))
 |.andNot=>kk k k' (.dG (.int k (k.wrap (BitVec.ofInt k.bits a&&& ~~~BitVec.ofInt k.bits b).toNat)))
 |.eql=>kk k k' (.dG (.bool (a==b)))
 |.neq=>kk k k' (.dG (.bool (a !=b)))
 |.lss=>kk k k' (.dG (.bool (decide (a<b))))
 |.leq=>kk k k' (.dG (.bool (decide (a<=b))))
 |.gtr=>kk k k' (.dG (.bool (decide (a>b))))
 |.geq=>kk k k' (.dG (.bool (decide (a>=b))))
def HG(op:BinOp)(a b:List UInt8):PR:=
 match op with
 |.add=>.fY (((a.length+b.length:Nat):Int)<=Iw) (.str (a++b))
 |.eql=>.dG (.bool (a==b))
 |.neq=>.dG (.bool (!(a==b)))
 |.lss=>.dG (.bool (Op.bytesLess a b))
 |.leq=>.dG (.bool (Op.bytesLess a b||a==b))
 |.gtr=>.dG (.bool (!(Op.bytesLess a b||a==b)))
 |.geq=>.dG (.bool (!Op.bytesLess a b))
 |_=>.no
def JM(op:BinOp)(x y:AV):PR:=
 match x,y with
 |.int k a,.int k' b=>su op k k' a b
 |.str a,.str b=>HG op a b
 |_,_=>.no
def J7(ne:Bool)(x y:AV):PR:=
 match x,y with
 |.bool a,.bool b=>.dG (.bool ((a==b)!=ne))
 |_,_=>.no
def DV(ne:Bool)(x y:AV):PR:=
 match x,y with
 |.fO,.fO=>.dG (.bool (!ne))
 |.ref _ _,.fO=>.dG (.bool ne)
 |.fO,.ref _ _=>.dG (.bool ne)
 |.ref b o,.ref b' o'=>bif b==b'&&o==o' then .dG (.bool (!ne))else .no
 |_,_=>.no
def OJ(ne:Bool)(x y:AV):PR:=
 match x,y with
 |.sl _ _ (_+1) _,.sl _ _ 0 []=>.dG (.bool ne)
 |.arr _ _ _ (_+1),.sl _ _ 0 []=>.dG (.bool ne)
 |_,_=>.no
def K8:List AV->List AV->Bool
 |[],[]=>true
 |.int k _::r,.int k' _::s=>SH k k'&&K8 r s
 |_,_=>false
def OH:List AV->List AV->Bool
 |.int _ a::r,.int _ b::s=>(a==b)&&OH r s
 |_,_=>true
def agW(n:Nat)(ne:Bool)(x y:AV):PR:=
 match x,y with
 |.agg cs,.agg ds=>bif K8 cs ds&&cs.length==n then .dG (.bool (OH cs ds !=ne))else .no
 |_,_=>.no
def Io(ne:Bool):AV->PR
 |.l9=>.dG (.bool (!ne))
 |_=>.no
def agX(ne:Bool):AV->PR
 |.fn _ _ _=>.dG (.bool ne)
 |.p8=>.dG (.bool (!ne))
 |_=>.no
def cellsOf:AV->List AV
 |.agg cs=>cs
 |a=>[a]
def od(multi:Bool)(cs:List AV):AV:=match multi,cs with
 |true,cs=>.agg cs
 |false,a::_=>a
 |false,[]=>.undef
def sub(cs:List AV)(off n:Nat):List AV:=(cs.drop off).take n
def views(cs:List AV):List AV:=cs.map view
def bM:AV->List AV
 |.agg cs=>views cs
 |a=>[a]
def setAt(cs:List AV)(off:Nat)(news:List AV):List AV:=cs.take off++news++cs.drop (off+news.length)
def bx(b:Bool):AV->Option Bool
 |.bool x=>some x
 |.when b' (.bool x)=>bif(b'==b)||b' then some x else none
 |_=>none
def fill(f:IX->AV)(cells:List AV):List (Nat×Nat×IX)->Option (List AV)
 |[]=>some cells
 |(off,n,x)::r=>
  let c:=views (cellsOf (f x))
  bif ee (f x)&&(c.length==n&&decide (off+n<=cells.length))then fill f (setAt cells off c) r else none
def jg(n off:Nat)(cs:List AV):Option (List AV):=bif decide (off+n<=cs.length)then some (views (sub cs off n))else none
def nH(n off:Nat):AV->Option (List AV)
 |.loc cs=>jg n off cs
 |_=>none
def vi(n off:Nat):Option SO->Option (List AV)
 |some (.cells cs)=>jg n off cs
 |_=>none
def rd(σ:St)(p:AV)(n:Nat):Option (List AV):=
 match p with
 |.loc cs=>jg n 0 cs
 |.lp d off=>nH n off (look σ.e d)
 |.sp cs=>jg n 0 cs
 |.ref b off=>vi n off (σ.s b)
 |_=>none
def E2(f:IX->AV)(o:Option IX)(aex:Int):Option Int:=
 match o with
 |none=>some aex
 |some x=>match f x with
  |.int _ n=>some n
  |_=>none
def I3(mx:Bool):Int->List AV->Option Int
 |a,[]=>some a
 |a,.int _ b::r=>I3 mx (bif mx then max a b else min a b) r
 |_,_=>none
def ql:AV->Bool
 |.agg _=>false
 |a=>ee a
def Fl(cs:List AV):Prop:=∀c∈cs,ql c=true
def Ex(t:Nat)(cs:List AV):Prop:=∀c∈cs,ql c=true\/c=.oo t
def M5(a:AV):PR:=bif ee a then .dG (view a)else .no
def OW:AV->Option (Bool×Bool)
 |.bool x=>some (true,x)
 |.when b (.bool x)=>some (b,x)
 |_=>none
def Qf(b:Bool):Option (Bool×Bool)->Option (Bool×Bool)->PR
 |some (g1,p),some (g2,q)=>.fY ((b=true->g1=true)/\(b=false->g2=true)) (.bool (bif b then p else q))
 |_,_=>.no
def Wu:AV->Option (Bool×Bool)
 |.jV []=>some (false,false)
 |a=>OW a
def Fk(x y:AV):AV->PR
 |.bool b=>Qf b (Wu x) (Wu y)
 |_=>.no
def UG(a:AV):PR:=bif ee a then .dG a else .no
def YQ(c:Prop)(a:AV):PR:=bif ee a then .fY c a else .no
def VN:UnOp->AV->PR
 |.not,.bool b=>.dG (.bool (!b))
 |.neg,.int k n=>.dG (.int k (kn k (0 -n)))
 |_,_=>.no
def uw(k:IntKind):AV->PR
 |.int _ n=>.dG (.int k (kn k n))
 |_=>.no
def aet:AV->PR
 |.str s=>.dG (.str s)
 |_=>.no
def na(multi:Bool):Option (List AV)->PR
 |some cs=>UG (od multi cs)
 |none=>.no
def aeC(n:Nat)(multi:Bool)(off:Nat):AV->PR
 |.agg cs=>bif decide (off+n<=cs.length)then UG (view (od multi (sub cs off n)))else .no
 |_=>.no
def afb(n:Nat)(multi:Bool)(len:Nat):AV->AV->PR
 |.agg cs,.int _ k=>bif len*n==cs.length then YQ (0<=k/\k<len) (view (od multi (sub cs (k.toNat*n) n)))else .no
 |_,_=>.no
def uK:AV->AV->PR
 |.str s,.int _ k=>.fY (0<=k/\k<s.length) (.int .u8 (s.getD k.toNat 0).toNat)
 |_,_=>.no
def mE:AV->PR
 |.ref b off=>.dG (.ref b off)
 |_=>.no
def M4(c:Prop)(off:Nat):IX->PR
 |.t i=>.fY (c) (.lp i off)
 |.c _=>.no
def gR(off:Nat)(x:IX):AV->PR
 |.lp d o=>.dG (.lp d (o+off))
 |.sp cs=>bif decide (off<=cs.length)then .dG (.sp (cs.drop off))else .no
 |.ref b o=>.dG (.ref b (o+off))
 |.loc _=>M4 True off x
 |_=>.no
def pad(zero cs:List AV):List AV:=bif cs.length==zero.length then cs else zero
def kW(zero:List AV):AV->AV->PR
 |.sl _ s n cs,.int _ k=>bif s==zero.length then .fY (0<=k/\k<n) (.sp (pad zero (views (sub cs (k.toNat*zero.length) zero.length))))else .no
 |.arr b off n _,.int _ k=>.fY (0<=k/\k<n) (.ref b (off+k.toNat*zero.length))
 |_,_=>.no
def gD(sz len:Nat)(x:IX):AV->AV->PR
 |.lp d o,.int _ k=>.fY (0<=k/\k<len) (.lp d (o+k.toNat*sz))
 |.sp cs,.int _ k=>bif decide (len*sz<=cs.length)then .fY (0<=k/\k<len) (.sp (cs.drop (k.toNat*sz)))else .no
 |.ref b o,.int _ k=>.fY (0<=k/\k<len) (.ref b (o+k.toNat*sz))
 |.loc _,.int _ k=>M4 (0<=k/\k<len) (k.toNat*sz) x
 |_,_=>.no
def Bq(sz n:Nat)(cs:List AV):Option Int->Option Int->PR
 |some l,some h=>bif Nat.ble 1 sz then .fY (0<=l/\l<=h/\h<=n) (.sl false sz ((sub cs (l.toNat*sz) ((h -l).toNat*sz)).length/sz) (sub cs (l.toNat*sz) ((h -l).toNat*sz)))else .no
 |_,_=>.no
def kU(off cap l sz:Nat):Nat:=bif cap==l then off else off+l*sz
def yw(sz b off cap:Nat):Option Int->Option Int->PR
 |some l,some h=>.fY (0<=l/\l<=h/\h<=cap) (.arr b (kU off cap l.toNat sz) (h -l).toNat (cap -l.toNat))
 |_,_=>.no
def zr(sz b off cap:Nat):Option Int->Option Int->Option Int->PR
 |some l,some h,some m=>.fY (0<=l/\l<=h/\h<=m/\m<=cap) (.arr b (kU off m.toNat l.toNat sz) (h -l).toNat (m.toNat -l.toNat))
 |_,_,_=>.no
def pK(sz:Nat)(f:IX->AV)(lo hi:Option IX)(mx:IX):AV->PR
 |.arr b off _ cap=>zr sz b off cap (E2 f lo 0) (bif hi.isSome then E2 f hi 0 else none) (E2 f (some mx) 0)
 |_=>.no
def JS:AV->PR
 |.arr _ _ _ cap=>.dG (.int .i64 cap)
 |_=>.no
def tZ(sz:Nat)(f:IX->AV)(lo hi:Option IX):AV->PR
 |.sl _ s n cs=>bif s==sz then Bq sz n cs (E2 f lo 0) (E2 f hi n)else .no
 |.arr b off n cap=>yw sz b off cap (E2 f lo 0) (E2 f hi n)
 |_=>.no
def Dt(s:List UInt8):Option Int->Option Int->PR
 |some l,some h=>.fY (0<=l/\l<=h/\h<=s.length) (.str ((s.drop l.toNat).take (h -l).toNat))
 |_,_=>.no
def mR(f:IX->AV)(lo hi:Option IX):AV->PR
 |.str s=>Dt s (E2 f lo 0) (E2 f hi s.length)
 |_=>.no
def Ks:Option SO->PR
 |some (.map es)=>.dG (.int .i64 es.length)
 |_=>.no
def AK(s:ae):Nat->AV->PR
 |0,.sl _ _ n _=>.dG (.int .i64 n)
 |0,.arr _ _ n _=>.dG (.int .i64 n)
 |1,.str s=>.dG (.int .i64 s.length)
 |2,.tH=>.dG (.int .i64 0)
 |2,.mp b=>Ks (s b)
 |_,_=>.no
def abt(k:IntKind):Option Int->PR
 |some m=>.dG (.int k m)
 |none=>.no
def uC(mx:Bool):List AV->PR
 |.int k n::r=>abt k (I3 mx n r)
 |_=>.no
def Ip:Option AV->PR
 |some a=>UG (view a)
 |none=>.no
def qk(k:Nat):AV->PR
 |.jV vs=>Ip vs[k]?
 |_=>.no
def byteOf:AV->Option UInt8
 |.int .u8 n=>if 0<=n/\n<256 then some (UInt8.ofNat n.toNat)else none
 |_=>none
def Om{α:Type}:Option α->Option (List α)->Option (List α)
 |some a,some l=>some (a::l)
 |_,_=>none
def bytesOf:List AV->Option (List UInt8)
 |[]=>some []
 |a::r=>Om (byteOf a) (bytesOf r)
def VG:Option (List UInt8)->PR
 |some l=>.dG (.str l)
 |none=>.no
def ru:AV->PR
 |.sl _ sz _ cs=>bif sz==1 then VG (bytesOf cs)else .no
 |_=>.no
def BB:Option (List AV)->PR
 |some cs=>.dG (.agg cs)
 |none=>.no
def Mv(a:AV):Option (List AV)->Option (List AV)
 |some l=>bif ee a then some (view a::l)else none
 |none=>none
def cQ(f:IX->AV):List IX->Option (List AV)
 |[]=>some []
 |x::r=>Mv (f x) (cQ f r)
def uB(fi:Nat):Option (List AV)->Option (List AV)->PR
 |some a,some b=>.dG (.fn fi a b)
 |_,_=>.no
def IV(zero:List AV)(multi:Bool)(off:Nat):Option SO->PR
 |some (.cells cs)=>YQ (off+zero.length<=cs.length) (od multi (pad zero (views (sub cs off zero.length))))
 |_=>.no
def E5(zero:List AV)(multi:Bool)(s:ae):AV->PR
 |.ref b off=>IV zero multi off (s b)
 |_=>.no
def W8(k:IntKind)(off:Nat):Option SO->Prop
 |some (.cells cs)=>∃n,cs[off]? =some (.int k n)
 |_=>False
def intOf:Option AV->Int
 |some (.int _ n)=>n
 |_=>0
def W9(off:Nat):Option SO->Int
 |some (.cells cs)=>intOf cs[off]?
 |_=>0
def afh(k:IntKind)(s:ae):AV->PR
 |.ref b off=>.fY (W8 k off (s b)) (.int k (W9 off (s b)))
 |_=>.no
def pv(o:sj)(f:IX->AV)(σ:St):PR:=
 match o with
 |.oU false x=>M5 (f x)
 |.pick c x y=>Fk (σ.x x) (σ.x y) (f c)
 |.bin op x y=>JM op (f x) (f y)
 |.UU ne x y=>J7 ne (f x) (f y)
 |.NM ne x y=>DV ne (f x) (f y)
 |.Rk ne x (.c (.sl true z 0 []))=>OJ ne (f x) (.sl true z 0 [])
 |.un op x=>VN op (f x)
 |.ko k x=>uw k (f x)
 |.load n multi x=>na multi (rd σ (f x) n)
 |.kv x i=>uK (f x) (f i)
 |.nilCheck x=>mE (f x)
 |.fieldAddr off x=>gR off x (f x)
 |.indexAddr zero x i=>kW zero (f x) (f i)
 |.jJ sz len x i=>gD sz len x (f x) (f i)
 |.slice sz x lo hi none=>tZ sz f lo hi (f x)
 |.ny x lo hi=>mR f lo hi (f x)
 |.len cls x=>AK σ.s cls (f x)
 |.mD mx xs=>uC mx (xs.map f)
 |.extract x k=>qk k (f x)
 |.build zero parts=>BB (fill f zero parts)
 |.tG fi first jv=>uB fi (cQ f first) (cQ f jv)
 |.jM x=>ru (f x)
 |.kj zero multi x=>E5 zero multi σ.s (f x)
 |.slice sz x lo hi (some mx)=>pK sz f lo hi mx (f x)
 |.cap x=>JS (f x)
 |.RZ ne x=>Io ne (f x)
 |_=>.no
inductive dp where
 |none
 |frame
 |slot (i j:Nat)
 |loc (i:Nat)
 |sh
 |cell (b j:Nat)
 |res (j:Nat)
 deriving DecidableEq
structure Gh where
 R:Nat->Nat
 O:Nat->dp
inductive VR(w:World)(R:Nat->Nat):AV->Value->Prop where
 |undef (v:Value):VR w R .undef v
 |bool (b:Bool):VR w R (.bool b) (.bool b)
 |int (k:IntKind) (n:Int):VR w R (.int k n) (.int k n)
 |str (s:List UInt8):VR w R (.str s) (.string ⟨s.toArray⟩)
 |fO:VR w R .fO (.pointer none)
 |ref (b off:Nat):VR w R (.ref b off) (.pointer (some ⟨b,off,none⟩))
 |sp (cs:List AV) (b off:Nat) (u:Nat->Value) (hf:Fl cs) (hR:off+cs.length<=R b)
   (hc:∀(j:Nat)(c:AV),cs[j]? =some c->w.cell? ⟨b,off+j,none⟩=some (u j)) (hr:∀(j:Nat)(c:AV),cs[j]? =some c->VR w R c (u j)):
   VR w R (.sp cs) (.pointer (some ⟨b,off,none⟩))
 |slnil (own:Bool) (sz:Nat):VR w R (.sl own sz 0 []) (.slice none 0 0)
 |sle (sz:Nat) (a:Addr) (cap:Nat):VR w R (.sl false sz 0 []) (.slice (some a) 0 cap)
 |sl (own:Bool) (sz n:Nat) (cs:List AV) (b off cap:Nat) (u:Nat->Value) (hf:Fl cs) (hl:cs.length=n*sz) (hR:off+cs.length<=R b) (gv:n<=cap)
   (hc:∀(j:Nat)(c:AV),cs[j]? =some c->w.cell? ⟨b,off+j,none⟩=some (u j)) (hr:∀(j:Nat)(c:AV),cs[j]? =some c->VR w R c (u j)):
   VR w R (.sl own sz n cs) (.slice (some ⟨b,off,none⟩) n cap)
 |arr (b off len cap:Nat):VR w R (.arr b off len cap) (.slice (some ⟨b,off,none⟩) len cap)
 |FX (b off:Nat):VR w R (.arr b off 0 0) (.slice none 0 0)
 |agg (cs:List AV) (vs:Array Value) (hf:Fl cs) (hl:vs.size=cs.length) (hr:∀(j:Nat)(c:AV)(v:Value),cs[j]? =some c->vs[j]? =some v->VR w R c v):VR w R (.agg cs) (.agg vs)
 |jV (cs:List AV) (vs:Array Value) (hl:vs.size=cs.length) (hr:∀(j:Nat)(c:AV)(v:Value),cs[j]? =some c->vs[j]? =some v->VR w R c v):VR w R (.jV cs) (.tuple vs)
 |fn (f:Nat) (first jv:List AV) (vf vc:Array Value) (hl:vf.size=first.length) (hr:∀(j:Nat)(c:AV)(v:Value),first[j]? =some c->vf[j]? =some v->VR w R c v)
   (hl':vc.size=jv.length) (hr':∀(j:Nat)(c:AV)(v:Value),jv[j]? =some c->vc[j]? =some v->VR w R c v):VR w R (.fn f first jv) (.func (.func f) vf vc)
 |p8:VR w R .p8 .nilFunc
 |mp (b:Nat):VR w R (.mp b) (.map (some b))
 |tH:VR w R .tH (.map none)
 |when (b:Bool) (a:AV) (v:Value) (h:b=true->VR w R a v):VR w R (.when b a) v
 |one (v:Value) (h:v.oneCell'=true):VR w R .one v
 |oo (t:Nat):VR w R (.oo t) (.pointer none)
 |l9:VR w R .l9 .nilIface
 |bb (t n:Nat) (cs:List AV) (v:Value) (h:VR w R (.sl true 1 n cs) v) (h0:n=0->v=.slice none 0 0):VR w R (.bb t n cs) v
def ew(G:Gh)(w:World)(o:dp)(a:AV)(v:Value):Prop:=
 match a with
 |.sl true sz n _=>∀base m cap,v=.slice base m cap->(cap≠n\/0<n)->
   ∃b off c e fz,base=some ⟨b,off,none⟩/\G.O b=o/\G.R b=off+n*sz/\w.heap[b]? =some (.cells c e fz)/\c.size=off+cap*sz/\
    (∀k,k<c.size->¬(fz.1<=k/\k<fz.2))/\fz.1<=fz.2/\off=0/\(fz=(0,0)\/(0<n/\∃x,c[0]? =some (.int .u8 x)))/\
    ∀(k:Nat)(y:Value),off+n*sz<=k->c[k]? =some y->y.oneCell'=true
 |.bb e n _=>∀base m cap,v=.slice base m cap->(cap≠n\/0<n)->
   ∃b off c fz,base=some ⟨b,off,none⟩/\G.O b=o/\G.R b=off+n*1/\w.heap[b]? =some (.cells c e fz)/\c.size=off+cap*1/\
    (∀k,k<c.size->¬(fz.1<=k/\k<fz.2))/\fz.1<=fz.2/\off=0/\(fz=(0,0)\/(0<n/\∃x,c[0]? =some (.int .u8 x)))/\
    ∀(k:Nat)(y:Value),off+n*1<=k->c[k]? =some y->y.oneCell'=true
 |_=>True
def dS(G:Gh)(w:World)(o:Nat->dp)(cs:List AV)(c:Array Value):Prop:=c.size=cs.length/\∀(j:Nat)(x:AV)(y:Value),cs[j]? =some x->c[j]? =some y->VR w G.R x y/\ew G w (o j) x y
def UsR(G:Gh)(w:World)(o:dp)(sz n:Nat)(cs:List AV)(v:Value):Prop:=
 (n=0/\cs=[]/\(v=.slice none 0 0\/∃b off,v=.slice (some ⟨b,off,none⟩) 0 0))\/
 ∃b cap c t sp,0<cap/\n<=cap/\v=.slice (some ⟨b,0,none⟩) n cap/\G.O b=o/\G.R b=0/\w.heap[b]? =some (.cells c t (0,0))/\c.size=cap*sz/\cs.length=n*sz/\(cs++sp).length=cap*sz/\
  (∀(j:Nat)(x:AV)(u:Value),(cs++sp)[j]? =some x->c[j]? =some u->VR w G.R x u)/\Fl (cs++sp)/\views (cs++sp)=cs++sp
def dT(G:Gh)(w:World)(e:List (Nat×AV))(tmps:Array Value)(i:Nat):AV->Value->Prop
 |.loc cs,v=>∃b c t,v=.pointer (some ⟨b,0,none⟩)/\G.O b=.loc i/\G.R b=0/\w.heap[b]? =some (.cells c t (0,0))/\dS G w (.cell b) cs c/\Fl cs
 |.lp d off,v=>∃b,v=.pointer (some ⟨b,off,none⟩)/\∀cs,look e d=.loc cs->tmps[d]? =some (.pointer (some ⟨b,0,none⟩))
 |.jV vs,v=>∃ys:Array Value,v=.tuple ys/\dS G w (fun j=>.slot i (j+1)) vs ys
 |.when b a,v=>(b=true->dT G w e tmps i a v)/\(b=false->v=.tuple #[])
 |.us sz n cs,v=>UsR G w (.slot i 0) sz n cs v
 |a,v=>VR w G.R a v/\ew G w (.slot i 0) a v
def bS:AV->Nat->Prop
 |.lp d _,d'=>d=d'
 |.when _ a,d'=>bS a d'
 |_,_=>False
structure cS(G:Gh)(w:World):Prop where
 mn:∀b,w.heap.size<=b->G.O b=.none
 nc:∀b,w.heap.size<=b->G.R b=0
def aeg(G:Gh)(w:World)(x:AV×AV)(y:MapEntry):Prop:=VR w G.R x.1 y.key/\VR w G.R x.2 y.val
def bB(G:Gh)(w:World)(s:ae):Prop:=
 ∀b o,s b=some o->G.O b=.sh/\G.R b=0/\match o with
  |.cells cs=>∃c t,w.heap[b]? =some (.cells c t (0,0))/\dS G w (.cell b) cs c/\Ex t cs
  |.map es=>∃sW clock,w.heap[b]? =some (.map sW clock)/\sW.size=es.length/\∀(j:Nat)(x:AV×AV)(y:MapEntry),es[j]? =some x->sW[j]? =some y->aeg G w x y
structure Inv(G:Gh)(n:Nat)(D:List Deferred)(σ:St)(a:Act)(w:World):Prop where
 bF:cS G w
 store:bB G w σ.s
 size:a.tmps.size=n
 da:∀(i:Nat)(v:Value),a.tmps[i]? =some v->dT G w σ.e a.tmps i (look σ.e i) v
 EH:∀i,n<=i->look σ.e i=.undef
 Kx:∀i d,bS (look σ.e i) d->(i,d)∈σ.lp
 ry:a.defers=D
structure aR(G:Gh)(w:World)(G':Gh)(w':World):Prop where
 os:w'.os=w.os
 tape:w'.tape=w.tape
 output:w'.output=w.output
 drawn:w.drawn<=w'.drawn
 size:w.heap.size<=w'.heap.size
 mono:∀b,b<w.heap.size->G.R b<=G'.R b
 nz:∀b k,b<w.heap.size->k<G.R b->w'.cell? ⟨b,k,none⟩=w.cell? ⟨b,k,none⟩
 frame:∀b,b<w.heap.size->G.O b=.frame\/G.O b=.none->w'.heap[b]? =w.heap[b]?
 kq:∀b,b<w.heap.size->G.O b=.frame->G'.O b=.frame/\G'.R b=G.R b
 qI:∀b,b<w.heap.size->G.O b=.none->G'.O b=.none/\G'.R b=G.R b
def Vx(G:Gh)(w:World)(a:AV)(v:Value):Prop:=
 match a with
 |.us sz n cs=>UsR G w (.res 0) sz n cs v
 |a=>VR w G.R a v/\ew G w (.res 0) a v
def ri(G:Gh)(w:World)(rs:List AV)(v:Value):Prop:=
 match rs with
 |[a]=>Vx G w a v
 |rs=>∃ys:Array Value,v=.tuple ys/\dS G w (fun j=>.res j) rs ys
def wV(G:Gh):Prop:=∀b,G.O b=.none\/G.O b=.frame\/G.O b=.sh\/∃b' j,G.O b=.cell b' j/\G.O b'=.sh
def vp(w:World)(R:Nat->Nat)(args:List AV)(vs:Array Value):Prop:=vs.size=args.length/\∀(j:Nat)(a:AV)(v:Value),args[j]? =some a->vs[j]? =some v->VR w R a v
def FN(P:Program)(f:FuncId)(args:List AV)(s:ae)(Q:List AV->ae->Prop):Prop:=
 ∀(G:Gh)(w:World)(vs:Array Value),cS G w->wV G->bB G w s->vp w G.R args vs->
  Calls P f vs w fun e w'=>∃v rs s' G',e=.returned v/\Q rs s'/\cS G' w'/\bB G' w' s'/\ri G' w' rs v/\aR G w G' w'
def FN.mono{P:Program}{f:FuncId}{args:List AV}{s:ae}{Q Q':List AV->ae->Prop}(h:FN P f args s Q)(hq:∀rs s',Q rs s'->Q' rs s'):FN P f args s Q':=fun G w vs h1 h2 h3 h4=>(h G w vs h1 h2 h3 h4).mono fun _ _⟨v,rs,s',G',a,b,c⟩=>⟨v,rs,s',G',a,hq _ _ b,c⟩
def FE(P:Program)(f:FuncId)(args:List AV)(s:ae)(rs:List AV)(s':ae):Prop:=FN P f args s fun r t=>r=rs/\t=s'
theorem FE.app{P:Program}{f:FuncId}{args:List AV}{s s':ae}{rs:List AV}{Q:List AV->ae->Prop}(h:FE P f args s rs s')(hq:Q rs s'):FN P f args s Q:=FN.mono h fun _ _⟨h1,h2⟩=>by rw[h1,h2];exact hq
def fS:List AV->AV
 |[a]=>a
 |rs=>.jV rs
def room:Nat:=140737488355328
def mB(lp:List (Nat×Nat))(d:Option Nat):Bool:=match d with
 |some d=>lp.all fun x=>!Nat.beq x.2 d
 |none=>true
def St.drain(σ:St)(x:IX):St:=match x with
 |.t i=>σ.put (some i) (view (look σ.e i))
 |.c _=>σ
def gQ(off:Nat)(news:List AV)(jt:List AV):Option (List AV):=bif decide (off+news.length<=jt.length)then some (setAt jt off news)else none
def YH(σ:St)(d:Nat):Option (List AV)->Option St
 |some cs=>some (σ.put (some d) (.loc cs))
 |none=>none
def ZW(σ:St)(b:Nat):Option (List AV)->Option St
 |some cs=>some {σ with s:=σ.s.set b (.cells cs)}
 |none=>none
def Mo(σ:St)(d off:Nat)(news:List AV):AV->Option St
 |.loc jt=>YH σ d (gQ off news jt)
 |_=>none
def Rb(σ:St)(b off:Nat)(news:List AV):Option SO->Option St
 |some (.cells jt)=>ZW σ b (gQ off news jt)
 |_=>none
def ac8(σ:St)(news jt:List AV):IX->Option St
 |.t d=>YH σ d (gQ 0 news jt)
 |.c _=>none
def JC(σ:St)(p:AV)(i:IX)(news:List AV):Option St:=
 match p with
 |.loc jt=>ac8 σ news jt i
 |.lp d off=>Mo σ d off news (look σ.e d)
 |.ref b off=>Rb σ b off news (σ.s b)
 |_=>none
def abe:AV->AV->Bool
 |.int _ a,.int _ b=>a==b
 |.str a,.str b=>a==b
 |.bool a,.bool b=>a==b
 |_,_=>false
def Px:List AV->List AV->Bool
 |[],[]=>true
 |a::x,b::y=>abe a b&&Px x y
 |_,_=>false
def U8(a b:AV):Bool:=Px (cellsOf a) (cellsOf b)
def UX(k:AV):List (AV×AV)->Option AV
 |[]=>none
 |x::r=>bif U8 k x.1 then some x.2 else UX k r
def XI(k v:AV):List (AV×AV)->List (AV×AV)
 |[]=>[(k,v)]
 |x::r=>bif U8 k x.1 then(k,v)::r else x::XI k v r
section
variable(P:Program)
def PK(σ:St)(x:IX)(d:Option Nat)(K:St->Prop)(a:AV):Prop:=ee a=true/\K ((σ.drain x).put d a)
def Uz(n:Nat)(σ:St)(d:Option Nat)(K:St->Prop)(a:AV):Prop:=ee a=true/\(cellsOf a).length=n/\K (σ.put d (.loc (views (cellsOf a))))
def UB(n:Nat)(σ:St)(d:Option Nat)(K:St->Prop)(a:AV):Prop:=ee a=true/\(cellsOf a).length=n/\∀b,σ.s b=none->K ({σ with s:=σ.s.set b (.cells (views (cellsOf a)))}.put d (.ref b 0))
def xf(sz n:Nat)(σ:St)(d:Option Nat)(K:St->Prop):Option (List AV)->Prop
 |some cs=>cs.length=n*sz/\K (σ.put d (.sl true sz n cs))
 |none=>False
def QN(d:Option Nat)(K:St->Prop):Option St->Prop
 |some τ=>K (τ.put d (.jV []))
 |none=>False
def Hk(n:Nat)(σ:St)(p:IX)(v:IX)(d:Option Nat)(K:St->Prop)(a:AV):Prop:=ee a=true/\(bM a).length=n/\QN d K (JC (σ.drain v) (σ.x p) p (bM a))
def mT(sz bytes:Nat)(σ:St)(x:IX)(d:Option Nat)(K:St->Prop):AV->AV->Prop
 |.sl true s n cs,.sl _ s' m ds=>s=sz/\(s'=sz\/m=0)/\(n+m)*bytes<=room/\K ((σ.drain x).put d (.sl true sz (n+m) (cs++views ds)))
 |.sl true s n cs,.str ds=>s=sz/\sz=1/\(n+ds.length)*bytes<=room/\K ((σ.drain x).put d (.sl true sz (n+ds.length) (cs++ds.map fun c=>.int .u8 c.toNat)))
 |_,_=>False
def A9(σ:St)(d:Option Nat)(K:St->Prop):AV->Prop
 |.sl _ sz _ cs=>sz=1/\∃s:List UInt8,cs=(s.map fun c=>.int .u8 c.toNat)/\K (σ.put d (.str s))
 |_=>False
def PV:List UInt8->Bool
 |[]=>false
 |_::_=>true
def qj(σ:St)(d:Option Nat)(K:St->Prop):AV->Prop
 |.str s=>K (σ.put d (.sl (PV s) 1 s.length (s.map fun c=>.int .u8 c.toNat)))
 |_=>False
def xQ(bytes:Nat)(zero:List AV)(σ:St)(d:Option Nat)(K:St->Prop):AV->AV->Prop
 |.int _ l,.int _ c=>0<=l/\l<=c/\c*bytes<=room/\
   ∀b,σ.s b=none->K ({σ with s:=σ.s.set b (.cells ((List.replicate c.toNat zero).flatten))}.put d (.arr b 0 l.toNat c.toNat))
 |_,_=>False
def adx(sz bytes:Nat)(σ:St)(d:Option Nat)(K:St->Prop):AV->Prop
 |.int _ c=>0<=c/\c*bytes<=room/\K (σ.put d (.sl true sz 0 []))
 |_=>False
def okV(ok:Bool)(a:AV)(b:Bool):AV:=match ok with
 |true=>.jV [a,.bool b]
 |false=>a
def afc:AV->Bool
 |.int .u8 _=>true
 |_=>false
def IL:FK->AV->Bool
 |.int k,.int k' _=>SH k k'
 |.str,.str _=>true
 |.bool,.bool _=>true
 |.bytes n,.agg cs=>cs.length==n&&cs.all afc
 |_,_=>false
def Kp(kk:FK)(es:List (AV×AV)):Bool:=es.all fun x=>IL kk x.1
def abl(zero:AV)(ok:Bool):Option AV->AV
 |some v=>okV ok (view v) true
 |none=>okV ok (view zero) false
def CS:AV->Bool
 |.jV _=>true
 |a=>ee a
def XH:Bool->AV->Bool
 |true,_=>true
 |false,a=>ee a
def ckL(ok:Bool)(c:Prop)(a:AV):PR:=bif XH ok a then .fY c a else .no
def SP(kk:FK)(zero:AV)(ok:Bool)(k:AV):Option SO->PR
 |some (.map es)=>ckL ok (IL kk k=true/\Kp kk es=true) (abl zero ok (UX k es))
 |_=>.no
def adu(kk:FK)(zero:AV)(ok:Bool)(s:ae)(k:AV):AV->PR
 |.mp b=>SP kk zero ok k (s b)
 |.tH=>ckL ok (IL kk k=true) (okV ok (view zero) false)
 |_=>.no
def Di:AV->PR
 |.sl true 1 (n+1) (.int .u8 x::cs)=>.dG (.sl false 1 (n+1) (.int .u8 x::cs))
 |_=>.no
def DE:AV->PR
 |.jV vs=>.dG (.jV (views vs))
 |_=>.no
def Ts(σ:St)(d:Option Nat)(K:St->Prop):PR->Prop
 |.dG a=>K (σ.put d a)
 |.fY c a=>c/\K (σ.put d a)
 |.no=>False
def afX(kk:FK)(b:Nat)(σ:St)(k v:AV)(d:Option Nat)(K:St->Prop):Option SO->Prop
 |some (.map es)=>(ee v=true/\IL kk k=true/\Kp kk es=true)/\K ({σ with s:=σ.s.set b (.map (XI (view k) (view v) es))}.put d (.jV []))
 |_=>False
def SS(kk:FK)(σ:St)(k v:AV)(d:Option Nat)(K:St->Prop):AV->Prop
 |.mp b=>afX kk b σ k v d K (σ.s b)
 |_=>False
def SD:AV->Bool
 |.us _ _ _=>true
 |_=>false
def ku:List AV->Bool
 |[a]=>ee a||SD a
 |_=>true
def Ld(σ:St)(d:Option Nat)(K:St->Prop)(rs:List AV)(s':ae):Prop:=ku rs=true/\K ({σ with s:=s'}.put d (fS rs))
def vu(f:Nat)(σ:St)(d:Option Nat)(K:St->Prop):Option (List AV)->Prop
 |some args=>FN P f args σ.s (Ld σ d K)
 |none=>False
def we(f:FuncId):Bool:=match P.funcs[f]? with
 |some fn=>fn.name != "runtime.NumGoroutine" &&fn.body.isSome
 |none=>false
def Oe(f:Nat)(first jv:List AV)(σ:St)(d:Option Nat)(K:St->Prop):Option (List AV)->Prop
 |some args=>we P f=true/\FN P f (first++args++jv) σ.s (Ld σ d K)
 |none=>False
def vY(σ:St)(args:Option (List AV))(d:Option Nat)(K:St->Prop):AV->Prop
 |.fn f first jv=>Oe P f first jv σ d K args
 |_=>False
def xg(g:Bool)(σ:St)(x:IX):AV:=vK g (σ.x x)
def VJ(i:Nat)(σ:St)(W:St->Prop):AV->Prop
 |.us sz n cs=>(∀b cap sp,σ.s b=none->0<cap->n<=cap->(cs++sp).length=cap*sz->Fl (cs++sp)->views sp=sp->W ({σ with s:=σ.s.set b (.cells (cs++sp))}.put (some i) (.arr b 0 n cap)))/\
   (n=0->∀b off,W (σ.put (some i) (.arr b off 0 0)))
 |_=>False
def xU(sz:Nat):AV->AV
 |.arr _ 0 0 0=>.sl true sz 0 []
 |a=>a
def Jx(sz:Nat):AV->List AV
 |.agg cs=>(views cs).map (xU sz)
 |a=>[a]
def ad4(sz n:Nat)(σ:St)(p:IX)(v:IX)(d:Option Nat)(K:St->Prop)(a:AV):Prop:=ee a=true/\(Jx sz a).length=n/\QN d K (JC (σ.drain v) (σ.x p) p (Jx sz a))
def UA(sz n:Nat)(σ:St)(d:Option Nat)(K:St->Prop)(a:AV):Prop:=ee a=true/\(cellsOf a).length=n/\∀b,σ.s b=none->K ({σ with s:=σ.s.set b (.cells ((views (cellsOf a)).map (xU sz)))}.put d (.ref b 0))
def yM(sz n:Nat)(σ:St)(d:Option Nat)(K:St->Prop):Option (List AV)->Prop
 |some cs=>cs.length=n*sz/\∀b,σ.s b=none->K ({σ with s:=σ.s.set b (.cells (views cs))}.put d (.arr b 0 n n))
 |none=>False
def jA(m sz off:Nat):Option SO->Option (Nat×List AV)
 |some (.cells cs)=>bif decide (off+m*sz<=cs.length)then some (m,views (sub cs off (m*sz)))else none
 |_=>none
def zu(s:ae)(sz:Nat):AV->Option (Nat×List AV)
 |.sl _ s' m ds=>bif s'==sz then some (m,views ds)else bif m==0 then some (0,[])else none
 |.str l=>bif sz==1 then some (l.length,l.map fun c=>.int .u8 c.toNat)else none
 |.arr b off m _=>bif m==0 then some (0,[])else jA m sz off (s b)
 |_=>none
def oI(s:ae)(sz b off n:Nat):Option (List AV):=bif n==0 then some []else(jA n sz off (s b)).map Prod.snd
def tT(sz b off cap:Nat):Option SO->Prop
 |some (.cells cs)=>off+cap*sz<=cs.length
 |_=>False
def setRow(s:ae)(b off:Nat)(news:List AV):Option SO->ae
 |some (.cells cs)=>s.set b (.cells (setAt cs off news))
 |_=>s
def Mt(sz bytes:Nat)(zero:List AV)(σ:St)(d:Option Nat)(K:St->Prop)(b off n cap m:Nat)(ds:List AV):Option (List AV)->Prop
 |some olds=>zero.length=sz/\(n+m<=cap->(m=0/\K (σ.put d (.arr b off n cap)))\/(tT sz b off cap (σ.s b)/\K ({σ with s:=setRow σ.s b (off+n*sz) ds (σ.s b)}.put d (.arr b off (n+m) cap))))/\
   (cap<n+m->(n+m)*bytes<=room/\∀b' dw,σ.s b'=none->n+m<=dw->K ({σ with s:=σ.s.set b' (.cells (olds++ds++(List.replicate (dw -(n+m)) zero).flatten))}.put d (.arr b' 0 (n+m) dw)))
 |none=>False
def eP(sz bytes:Nat)(zero:List AV)(σ:St)(d:Option Nat)(K:St->Prop):AV->Option (Nat×List AV)->Prop
 |.arr b off n cap,some (m,ds)=>Mt sz bytes zero σ d K b off n cap m ds (oI σ.s sz b off n)
 |_,_=>False
def wZ(sz bytes:Nat)(zero:List AV)(σ:St)(d:Option Nat)(K:St->Prop):AV->AV->Prop
 |.arr b off n cap,.int .i64 c=>0<=c/\cap<n+c.toNat/\views zero=zero/\Mt sz bytes zero σ d K b off n cap c.toNat (List.replicate c.toNat zero).flatten (oI σ.s sz b off n)
 |_,_=>False
def aes(sz:Nat)(σ:St)(d:Option Nat)(K:St->Prop):AV->Option (Nat×List AV)->Prop
 |.arr b off n _,some (m,ds)=>(min m n=0/\K (σ.put d (.int .i64 0)))\/(tT sz b off n (σ.s b)/\K ({σ with s:=setRow σ.s b off (ds.take (min m n*sz)) (σ.s b)}.put d (.int .i64 (min m n:Nat))))
 |_,_=>False
def A4(zero:List AV)(σ:St)(d:Option Nat)(K:St->Prop):AV->Prop
 |.arr b off n _=>(n=0/\K (σ.put d (.jV [])))\/(tT zero.length b off n (σ.s b)/\views zero=zero/\K ({σ with s:=setRow σ.s b off (List.replicate n zero).flatten (σ.s b)}.put d (.jV [])))
 |_=>False
def ZZ(P:Program)(f:FuncId):Prop:=∀(w:World)(a b:Nat)(oa la ca ob lb cb:Nat)(ta tb:TypeId)(x y:Array Value)(fa:Nat×Nat),a≠b->w.heap[a]? =some (.cells x ta fa)->x.size≠0->w.heap[b]? =some (.cells y tb (0,0))->y.size≠0->
 ∃w',(callFunc f #[.slice (some ⟨a,oa,none⟩) la ca,.slice (some ⟨b,ob,none⟩) lb cb]).run P w=.ok (.value (.bool false)) w'/\w'.heap=w.heap/\w'.os=w.os/\w'.tape=w.tape/\w'.output=w.output/\w.drawn<=w'.drawn
def cellsIn:Option SO->Prop
 |some (.cells (_::_))=>True
 |_=>False
def ahn(P:Program)(f:FuncId)(σ:St)(d:Option Nat)(K:St->Prop):AV->AV->Prop
 |.sl _ _ (_+1) (_::_),.arr b' _ _ (_+1)=>ZZ P f/\cellsIn (σ.s b')/\K (σ.put d (.bool false))
 |_,_=>False
def tc(sz:Nat)(own:Bool)(σ:St)(d:Option Nat)(K:St->Prop):AV->Prop
 |.arr b off n cap=>(cap=0/\n=0/\off=0/\K (σ.put d (.sl own sz 0 [])))\/(0<cap/\n<=cap/\(own=true->off=0/\tT sz b off cap (σ.s b)/\sizeV (off+cap*sz) (σ.s b))/\frzK sz own σ d K b n (jA n sz off (σ.s b)))
 |_=>False
where
 sizeV (k:Nat):Option SO->Prop
  |some (.cells cs)=>cs.length=k
  |_=>False
 frzK (sz:Nat) (own:Bool) (σ:St) (d:Option Nat) (K:St->Prop) (b n:Nat):Option (Nat×List AV)->Prop
  |some (_,cs)=>K ({σ with s:=σ.s.del b}.put d (.sl own sz n cs))
  |none=>False
def R7(x:IX)(d:Option Nat)(τ:St):St:=match x,d with
 |.t i,some j=>match look τ.e j with
  |.sl _ sz n cs=>τ.put (some i) (.sl false sz n cs)
  |_=>τ
 |_,_=>τ
def Kv(sz:Nat)(own:Bool)(σ:St)(d:Option Nat)(K:St->Prop):Option (List AV)->Prop
 |some [a]=>ee a=true/\tc sz own σ d K a
 |_=>False
def lG(off:Nat)(cs:List AV)(k:List AV->AV->Prop):Prop:=match cs[off]? with
 |some (.sl o sz n ds)=>k (setAt cs off [.sl false sz n ds]) (.sl o sz n ds)
 |some (.bb t n ds)=>k (setAt cs off [.sl false 1 n ds]) (.bb t n ds)
 |_=>False
def DB(off:Nat)(cs:List AV)(k:List AV->AV->Prop):Prop:=match cs[off]? with
 |some (.sl o sz n ds)=>k (setAt cs off [.sl false sz n ds]) (.sl o sz n ds)
 |_=>False
def rP(σ:St)(d:Option Nat)(K:St->Prop):AV->Prop
 |.ref b off=>match σ.s b with
  |some (.cells cs)=>lG off cs fun cs' a=>K ({σ with s:=σ.s.set b (.cells cs')}.put d a)
  |_=>False
 |.lp i off=>match look σ.e i with
  |.loc cs=>d≠some i/\DB off cs fun cs' a=>K ((σ.put (some i) (.loc cs')).put d a)
  |_=>False
 |_=>False
def Cp(j:IX)(off:Nat)(a:AV):Bool:=match j,a with
 |.t i,.lp i' o=>i'==i&&o==off
 |_,_=>false
def OI(ne:Bool)(σ:St)(d:Option Nat)(K:St->Prop):AV->Prop
 |.sl _ _ n _=>∀v:Bool,(v=!ne->n=0)->K (σ.put d (.bool v))
 |.arr _ _ _ cap=>∀v:Bool,(v=!ne->cap=0)->K (σ.put d (.bool v))
 |_=>False
def Ot(d:Option Nat)(K:St->Prop)(σ:St)(b off:Nat):Option SO->Prop
 |some (.cells cs)=>off<cs.length/\K (σ.put d (.ref b off))
 |_=>False
def Lm(σ:St)(d:Option Nat)(K:St->Prop):AV->Prop
 |.ref b off=>Ot d K σ b off (σ.s b)
 |_=>False
def Cv(t cells off u:Nat):Bool:=liesAt P P.depth t (cells/P.cellsOf t) off u 1
def Oq(u:Nat)(d:Option Nat)(K:St->Prop)(σ:St)(b off:Nat):Option SO->Prop
 |some (.cells cs)=>∃t,cs[off]? =some (.oo t)/\Cv P t cs.length off u=true/\K (σ.put d (.ref b off))
 |_=>False
def Ll(u:Nat)(σ:St)(d:Option Nat)(K:St->Prop):AV->Prop
 |.ref b off=>Oq P u d K σ b off (σ.s b)
 |_=>False
def aaY(f:Nat):Prop:=∀(x:Value)(w:World),(callFunc f #[x]).run P w=.ok (.value x) w
def JR(f:Nat)(σ:St)(d:Option Nat)(K:St->Prop)(a:AV):Prop:=ee a=true/\aaY P f/\K (σ.put d (view a))
def UC(n t j u:Nat)(σ:St)(d:Option Nat)(K:St->Prop)(a:AV):Prop:=ee a=true/\(cellsOf a).length=n/\(cellsOf a)[j]? =some .fO/\(cellsOf a)[j+1]? =some (.bb u 0 [])/\∀b,σ.s b=none->K ({σ with s:=σ.s.set b (.cells (setAt (views (cellsOf a)) j [.oo t,.bb u 0 []]))}.put d (.ref b 0))
def sI(t:Nat)(σ:St)(x:IX)(d:Option Nat)(K:St->Prop):AV->AV->Prop
 |.bb t' n cs,.sl _ s' m ds=>t=t'/\(s'=1\/m=0)/\(n+m)*1<=room/\K ((σ.drain x).put d (.bb t (n+m) (cs++views ds)))
 |.bb t' n cs,.str ds=>t=t'/\(n+ds.length)*1<=room/\K ((σ.drain x).put d (.bb t (n+ds.length) (cs++ds.map fun c=>.int .u8 c.toNat)))
 |_,_=>False
def ki(o:sj)(d:Option Nat)(σ:St)(K:St->Prop):Prop:=
 match o with
 |.oU _ x=>PK σ x d K (σ.x x)
 |.lQ zero=>mB σ.lp d=true/\K (σ.put d (.loc zero))
 |.nv zero=>∀b,σ.s b=none->K ({σ with s:=σ.s.set b (.cells zero)}.put d (.ref b 0))
 |.HJ n x=>mB σ.lp d=true/\Uz n σ d K (σ.x x)
 |.Ad n x=>UB n σ d K (xg true σ x)
 |.iZ sz n zero parts=>xf sz n σ d K (fill (xg true σ) zero parts)
 |.store n p v=>Hk n σ p v d K (σ.x v)
 |.append sz bytes x y=>mT sz bytes σ x d K (σ.x x) (σ.x y)
 |.jM x=>A9 σ d K (xg true σ x)
 |.iw x=>qj σ d K (xg true σ x)
 |.l8 _ bytes zero l c=>xQ bytes zero σ d K (xg true σ l) (xg true σ c)
 |.call f args=>vu P f σ d K (cQ (xg true σ) args)
 |.iq x args=>vY P σ (cQ (xg true σ) args) d K (xg true σ x)
 |.my x=>Ts σ d K (Di (xg true σ x))
 |.ve x=>Ts σ d K (DE (xg true σ x))
 |.mZ sz n zero parts=>yM sz n σ d K (fill (xg true σ) zero parts)
 |.pd sz bytes zero x y=>eP sz bytes zero σ d K (σ.x x) (zu σ.s sz (σ.x y))
 |.pj sz bytes zero x y=>wZ sz bytes zero σ d K (σ.x x) (xg true σ y)
 |.sO zero x=>A4 zero σ d K (σ.x x)
 |.R6 sz own x=>tc sz own σ d (fun τ=>K (R7 x d τ)) (σ.x x)
 |.zU sz own x=>Kv sz own σ d K (rd σ (xg true σ x) 1)
 |.nE x=>rP σ d K (σ.x x)
 |.nG off j x=>Cp j off (σ.x x)=true/\rP σ d K (σ.x x)
 |.UW ne x=>OI ne σ d K (σ.x x)
 |.HK sz n x=>UA sz n σ d K (σ.x x)
 |.HL n t j u x=>UC n t j u σ d K (σ.x x)
 |.ph t x y=>sI t σ x d K (σ.x x) (σ.x y)
 |.H8 x=>Lm σ d K (σ.x x)
 |.zG f x=>JR P f σ d K (σ.x x)
 |.H7 u x=>Ll P u σ d K (σ.x x)
 |.zF f i args=>VJ i σ (fun τ=>vu P f τ d K (cQ (xg true τ) args)) (look σ.e i)
 |_=>False
def cu(σ:St):AV->Option Nat->St
 |.lp t _,some i=>{σ with lp:=(i,t)::σ.lp}
 |.when _ a,d=>cu σ a d
 |_,_=>σ
def Tb(o:sj)(σ:St)(d:Option Nat)(K:St->Prop):PR->Prop
 |.dG a=>K ((cu σ a d).put d a)
 |.fY c a=>c/\K ((cu σ a d).put d a)
 |.no=>ki P o d σ K
def Zp(o:sj)(d:Option Nat)(σ:St)(K:St->Prop):Prop:=Tb P o σ d K (pv o (xg true σ) σ)
def NQ(g:Bool)(o:sj)(σ:St)(d:Option Nat)(K:St->Prop):PR->Prop
 |.dG a=>K ((cu σ a d).put d (.when g a))
 |.fY c a=>(g=true->c)/\K ((cu σ a d).put d (.when g a))
 |.no=>(g=true->Zp P o d σ K)/\(g=false->K (σ.put d (.jV [])))
def yU(o:sj)(d:Option Nat)(t:Nat)(want:Bool)(σ:St)(K:St->Prop):AV->Prop
 |.bool b=>NQ P (b==want) o σ d K (pv o (xg (b==want) σ) σ)
 |.when b' (.bool b)=>NQ P (b'&&(b==want)) o σ d K (pv o (xg (b'&&(b==want)) σ) σ)
 |.jV []=>K (σ.put d (.jV []))
 |_=>False
def JH(o:aH)(σ:St)(K:St->Prop):Prop:=
 match o.g with
 |none=>Zp P o.op o.dst σ K
 |some (t,want)=>yU P o.op o.dst t want σ K (look σ.e t)
def Ua:List aH->St->(St->Prop)->Prop
 |[],σ,K=>K σ
 |o::r,σ,K=>JH P o σ (fun τ=>Ua r τ K)
def acQ(r:List aH)(K:St->Prop)(τ:St):Prop:=Ua P r τ K
def b8:AV->Bool
 |.loc _=>false
 |_=>true
def NJ(g:Bool):PR->PR
 |.dG a=>.dG (.when g a)
 |.fY c a=>.fY (g=true->c) (.when g a)
 |.no=>.no
def Yi:sj->Bool
 |.kj _ _ _=>true
 |_=>false
def Uk(r g:Bool):PR->PR
 |.dG a=>.dG (.when g a)
 |.fY c a=>.fY (g=true->c) (.when g a)
 |.no=>bif r then .fY (g=false) (.when g .undef)else .no
def Ji(o:sj)(want:Bool)(σ:St):AV->PR
 |.bool b=>Uk (Yi o) (b==want) (pv o (xg (b==want) σ) σ)
 |.when g (.bool b)=>Uk (Yi o) (g&&(b==want)) (pv o (xg (g&&(b==want)) σ) σ)
 |_=>.no
def qv(o:aH)(σ:St):PR:=match o.g with
 |none=>pv o.op (xg true σ) σ
 |some (t,want)=>Ji o.op want σ (look σ.e t)
def qK(σ:St)(d:Option Nat)(K:St->Prop):PR->Prop
 |.dG a=>b8 a=true/\K ((cu σ a d).put d a)
 |.fY c a=>c/\b8 a=true/\K ((cu σ a d).put d a)
 |.no=>False
def Qp(f:Nat)(σ:St)(d:Option Nat)(K:St->Prop):Option (List AV)->Prop
 |some as=>∃rs,ku rs=true/\FE P f as σ.s rs σ.s/\K (σ.put d (fS rs))
 |none=>False
def L7(f:Nat)(first jv:List AV)(σ:St)(d:Option Nat)(K:St->Prop):Option (List AV)->Prop
 |some as=>we P f=true/\∃rs,ku rs=true/\FE P f (first++as++jv) σ.s rs σ.s/\K (σ.put d (fS rs))
 |none=>False
def KO(σ:St)(args:Option (List AV))(d:Option Nat)(K:St->Prop):AV->Prop
 |.fn f first jv=>L7 P f first jv σ d K args
 |_=>False
def callee(x:IX)(args:List IX)(g:Bool)(σ:St)(f:Nat)(as:List AV):Prop:=∃first jv xs,xg g σ x=.fn f first jv/\cQ (xg g σ) args=some xs/\as=first++xs++jv
def Bm(x:IX)(args:List IX)(want:Bool)(σ:St)(d:Option Nat)(K:St->Prop):AV->Prop
 |.bool b=>∃rs,ku rs=true/\((b==want)=true->∃f as,callee x args (b==want) σ f as/\we P f=true/\FE P f as σ.s rs σ.s)/\K (σ.put d (.when (b==want) (fS rs)))
 |.when g (.bool b)=>∃rs,ku rs=true/\((g&&(b==want))=true->∃f as,callee x args (g&&(b==want)) σ f as/\we P f=true/\FE P f as σ.s rs σ.s)/\K (σ.put d (.when (g&&(b==want)) (fS rs)))
 |_=>False
def CV(f:Nat)(args:List IX)(want:Bool)(σ:St)(d:Option Nat)(K:St->Prop):AV->Prop
 |.bool b=>∃rs,ku rs=true/\((b==want)=true->∃as,cQ (xg (b==want) σ) args=some as/\FE P f as σ.s rs σ.s)/\K (σ.put d (.when (b==want) (fS rs)))
 |.when g (.bool b)=>∃rs,ku rs=true/\((g&&(b==want))=true->∃as,cQ (xg (g&&(b==want)) σ) args=some as/\FE P f as σ.s rs σ.s)/\K (σ.put d (.when (g&&(b==want)) (fS rs)))
 |_=>False
def afC(σ:St)(d:Option Nat)(K:St->Prop):AV->Prop
 |.sl _ sz _ cs=>sz=1/\∃s:List UInt8,cs=(s.map fun c=>.int .u8 c.toNat)/\K (σ.put d (.str s))
 |_=>False
def uq:AV->PR
 |.str s=>.dG (.sl (PV s) 1 s.length (s.map fun c=>.int .u8 c.toNat))
 |_=>.no
def Fu(sz n:Nat):Option (List AV)->PR
 |some cs=>.fY (cs.length=n*sz) (.sl true sz n cs)
 |none=>.no
def qe(f:IX->AV)(s:ae):sj->PR
 |.iw x=>uq (f x)
 |.iZ sz n zero parts=>Fu sz n (fill f zero parts)
 |.my x=>Di (f x)
 |.ve x=>DE (f x)
 |_=>.no
def L8(o:sj)(want:Bool)(σ:St):AV->PR
 |.bool b=>NJ (b==want) (qe (xg (b==want) σ) σ.s o)
 |.when g (.bool b)=>NJ (g&&(b==want)) (qe (xg (g&&(b==want)) σ) σ.s o)
 |_=>.no
def D8(o:aH)(σ:St):PR:=match o.g with
 |none=>qe (xg true σ) σ.s o.op
 |some (t,want)=>L8 o.op want σ (look σ.e t)
def q1(o:aH)(σ:St)(K:St->Prop):Prop:=
 match o with
 |⟨d,.call f args,none⟩=>Qp P f σ d K (cQ (xg true σ) args)
 |⟨d,.oU true x,none⟩=>PK σ x d K (σ.x x)
 |⟨d,.call f args,some (t,want)⟩=>CV P f args want σ d K (look σ.e t)
 |⟨d,.iq x args,none⟩=>KO P σ (cQ (xg true σ) args) d K (xg true σ x)
 |⟨d,.iq x args,some (t,want)⟩=>Bm P x args want σ d K (look σ.e t)
 |⟨d,.iw x,g⟩=>qK σ d K (D8 ⟨d,.iw x,g⟩ σ)
 |⟨d,.iZ sz n zero parts,g⟩=>qK σ d K (D8 ⟨d,.iZ sz n zero parts,g⟩ σ)
 |⟨d,.my x,g⟩=>qK σ d K (D8 ⟨d,.my x,g⟩ σ)
 |⟨d,.ve x,g⟩=>qK σ d K (D8 ⟨d,.ve x,g⟩ σ)
 |o=>qK σ o.dst K (qv o σ)
def aU(σ:St):Option Nat->Bool
 |some d=>b8 (look σ.e d)
 |none=>true
def X9:Nat->List aH->St->(St->Prop)->Prop
 |0,l,σ,K=>Ua P l σ K
 |_+1,[],σ,K=>K σ
 |q+1,o::r,σ,K=>aU σ o.dst=true/\q1 P o σ (fun τ=>X9 q r τ K)
def aco(q:Nat)(r:List aH)(K:St->Prop)(τ:St):Prop:=X9 P q r τ K
def oG(c:Nat):AV->Bool
 |.lp t _=>!Nat.beq t c
 |.when _ v=>oG c v
 |_=>true
def wE:List Nat->AV->Bool
 |[],_=>true
 |c::T,a=>oG c a&&wE T a
def nh(T:List Nat):List (Nat×AV)->Bool
 |[]=>true
 |p::e=>wE T p.2&&nh T e
def Vu(n:Nat)(σ:St)(c:Nat)(x:IX)(K:St->Prop):AV->Prop
 |.loc jt=>jt.length=n/\ee (σ.x x)=true/\(bM (σ.x x)).length=n/\K ((σ.drain x).put (some c) (.loc (bM (σ.x x))))
 |_=>False
def q2(o:aH)(σ:St)(K:St->Prop):Prop:=
 match o with
 |⟨none,.store n (.t c) x,none⟩=>Vu n σ c x K (look σ.e c)
 |⟨some d,.lQ z,none⟩=>b8 (look σ.e d)=true/\mB σ.lp (some d)=true/\K (σ.put (some d) (.loc z))
 |⟨some d,.append sz bytes x y,none⟩=>b8 (look σ.e d)=true/\mT sz bytes σ x (some d) K (σ.x x) (σ.x y)
 |⟨some d,.nG off (.t i) x,none⟩=>b8 (look σ.e d)=true/\Cp (.t i) off (σ.x x)=true/\rP σ (some d) K (σ.x x)
 |⟨_,.store _ _ _,_⟩=>False
 |⟨_,.lQ _,_⟩=>False
 |⟨_,.append _ _ _ _,_⟩=>False
 |⟨_,.nG _ _ _,_⟩=>False
 |o=>aU σ o.dst=true/\q1 P o σ K
def lh:AV->Bool
 |.ref _ _=>false
 |.when _ a=>lh a
 |_=>true
def nr(o:aH)(σ:St):Bool:=match o.op with
 |.load _ _ x=>lh (σ.x x)
 |.kj _ _ _=>false
 |.call _ _=>false
 |.iq _ _=>false
 |.len c _=>!Nat.beq c 2
 |_=>true
def yL(f:Nat)(s:ae)(C:AV->ae->Prop):Option (List AV)->Prop
 |some args=>FN P f args s (fun rs s'=>ku rs=true/\C (fS rs) s')
 |none=>False
def HM(f:Nat)(first jv:List AV)(s:ae)(C:AV->ae->Prop):Option (List AV)->Prop
 |some args=>we P f=true/\FN P f (first++args++jv) s (fun rs s'=>ku rs=true/\C (fS rs) s')
 |none=>False
def uj(args:Option (List AV))(s:ae)(C:AV->ae->Prop):AV->Prop
 |.fn f first jv=>HM P f first jv s C args
 |_=>False
def sM(bytes:Nat)(zero:List AV)(s:ae)(C:AV->ae->Prop):AV->AV->Prop
 |.int _ l,.int _ c=>0<=l/\l<=c/\c*bytes<=room/\∀b,s b=none->C (.arr b 0 l.toNat c.toNat) (s.set b (.cells ((List.replicate c.toNat zero).flatten)))
 |_,_=>False
def aae(n:Nat)(s:ae)(C:AV->ae->Prop)(a:AV):Prop:=ee a=true/\(cellsOf a).length=n/\∀b,s b=none->C (.ref b 0) (s.set b (.cells (views (cellsOf a))))
def La(b off:Nat)(news:List AV)(s:ae)(C:AV->ae->Prop):Option SO->Prop
 |some (.cells jt)=>off+news.length<=jt.length/\C (.jV []) (s.set b (.cells (setAt jt off news)))
 |_=>False
def I4:AV->Bool
 |.sl true _ _ _=>false
 |.bb _ _ _=>false
 |_=>true
def pk(n:Nat)(s:ae)(C:AV->ae->Prop)(v:AV):AV->Prop
 |.ref b off=>ee v=true/\I4 v=true/\(bM v).length=n/\La b off (bM v) s C (s b)
 |_=>False
def V0(kk:FK)(b:Nat)(s:ae)(k v:AV)(C:AV->ae->Prop):Option SO->Prop
 |some (.map es)=>(ee v=true/\IL kk k=true/\Kp kk es=true)/\C (.jV []) (s.set b (.map (XI (view k) (view v) es)))
 |_=>False
def agb(kk:FK)(s:ae)(k v:AV)(C:AV->ae->Prop):AV->Prop
 |.mp b=>V0 kk b s k v C (s b)
 |_=>False
def uk(b off:Nat)(s:ae)(C:AV->ae->Prop):Option SO->Prop
 |some (.cells cs)=>lG off cs fun cs' a=>C a (s.set b (.cells cs'))
 |_=>False
def oj(s:ae)(C:AV->ae->Prop):AV->Prop
 |.ref b off=>uk b off s C (s b)
 |_=>False
def uX(o:sj)(σ:St)(C:AV->ae->Prop):Prop:=match o with
 |.call f args=>yL P f σ.s C (cQ (xg true σ) args)
 |.iq x args=>uj P (cQ (xg true σ) args) σ.s C (xg true σ x)
 |.l8 _ bytes zero l c=>sM bytes zero σ.s C (xg true σ l) (xg true σ c)
 |.nv zero=>∀b,σ.s b=none->C (.ref b 0) (σ.s.set b (.cells zero))
 |.Ad n x=>aae n σ.s C (xg true σ x)
 |.store n p v=>pk n σ.s C (σ.x v) (σ.x p)
 |.nE x=>oj σ.s C (σ.x x)
 |_=>False
def Ri(σ:St)(d:Option Nat)(K:St->Prop)(a:AV)(s':ae):Prop:=K ({σ with s:=s'}.put d a)
def Rj(o:aH)(σ:St)(K:St->Prop):Prop:=match o.g with
 |none=>aU σ o.dst=true/\uX P o.op σ (Ri σ o.dst K)
 |some _=>False
def Hy(T:List Nat):List (Nat×Nat×aH)->St->(St->Prop)->Prop
 |[],σ,K=>K σ
 |(0,_,o)::r,σ,K=>q2 P o σ (fun τ=>nh T τ.e=true/\Hy T r τ K)
 |(1,_,o)::r,σ,K=>nr o σ=true/\q2 P o σ (fun τ=>nh T τ.e=true/\Hy T r τ K)
 |(2,_,o)::r,σ,K=>Rj P o σ (fun τ=>nh T τ.e=true/\Hy T r τ K)
 |(_+3,_,o)::r,σ,K=>JH P o σ (fun τ=>nh T τ.e=true/\Hy T r τ K)
def Oa(T:List Nat)(r:List (Nat×Nat×aH))(K:St->Prop)(τ:St):Prop:=nh T τ.e=true/\Hy P T r τ K
def vo:List Bool->List Bool->Bool
 |d::r,x::s=>(!d||x)&&vo r s
 |_,_=>true
def wR:List Bool->List Bool->List Bool
 |[],s=>s
 |x::p,s=>wR p (x::s)
def K5(done:List Bool):List (List Bool)->List Bool->List Bool->List aH->(aH->List Bool->Prop)->Prop
 |row::rows,pre,x::xs,o::r,F=>(bif !x&&vo row done then F o (wR pre (true::xs))else True)/\K5 done rows (x::pre) xs r F
 |_,_,_,_,_=>True
def wQ:List aH->List Bool
 |[]=>[]
 |_::r=>false::wQ r
def NL(iP:List (List Bool))(ops:List aH)(K:St->Prop):List aH->List Bool->St->Prop
 |[],_,σ=>K σ
 |_::f,done,σ=>K5 done iP [] done ops (fun o d=>JH P o σ (fun τ=>NL iP ops K f d τ))
def ada(iP:List (List Bool))(ops:List aH)(K:St->Prop)(f:List aH)(done:List Bool)(τ:St):Prop:=NL P iP ops K f done τ
def Ei(live:List Nat)(Q:Exit->St->Prop)(τ:St):Prop:=Q .normal (τ.xJ live)
def Mz(id:Nat)(Q:Exit->St->Prop):Exit->St->Prop
 |.exit i,τ=>bif i==id then Q .normal τ else Q (.exit i) τ
 |x,τ=>Q x τ
def IY(live:List (Nat×Bool))(I:St->Prop)(μ:St->Nat)(m:Nat)(Q:Exit->St->Prop):Exit->St->Prop
 |.normal,ρ=>I (ρ.fk live)/\μ (ρ.fk live)<m
 |x,ρ=>Q x ρ
def px(live:List (Nat×Bool))(J:St->Prop)(Q:Exit->St->Prop):Exit->St->Prop
 |.normal,ρ=>J (ρ.fk live)
 |x,ρ=>Q x ρ
def He(live:List (Nat×Bool))(I:St->Prop)(Q:Exit->St->Prop):Exit->St->Prop
 |.normal,ρ=>I (ρ.fk live)
 |.goto _,_=>False
 |x,ρ=>Q x ρ
def Gw(l:Nat)(live:List (Nat×Bool))(I:St->Prop)(Q:Exit->St->Prop):Exit->St->Prop
 |.goto l',ρ=>l'=l/\I (ρ.fk live)
 |x,ρ=>Q x ρ
def gx:IC->(Exit->St->Prop)->St->Prop
 |.skip,Q,σ=>Q .normal σ
 |.Vw q ops live,Q,σ=>match q with
  |none=>Ua P ops σ (Ei live Q)
  |some q=>X9 P q ops σ (Ei live Q)
 |.TM _ _ _ _,_,_=>False
 |.Nn T l live,Q,σ=>nh T σ.e=true/\Hy P T l σ (Ei live Q)
 |.TN iP ops live,Q,σ=>NL P iP ops (Ei live Q) ops (wQ ops) σ
 |.seq a b,Q,σ=>gx a (fun x τ=>match x with|.normal=>gx b Q τ|x=>Q x τ) σ
 |.cond c a b,Q,σ=>match σ.x c with
  |.bool v=>(v=true->gx a Q σ)/\(v=false->gx b Q σ)
  |_=>False
 |.block id b,Q,σ=>gx b (Mz id Q) σ
 |.loop live b,Q,σ=>∃(I:St->Prop)(μ:St->Nat),I (σ.fk live)/\∀τ,I τ->gx b (IY live I μ (μ τ) Q) τ
 |.join live a b,Q,σ=>∃J:St->Prop,gx a (px live J Q) σ/\∀τ,J τ->gx b Q τ
 |.exit id,Q,σ=>Q (.exit id) σ
 |.scope b,Q,σ=>gx b (fun x τ=>match x with|.goto _=>False|x=>Q x τ) σ
 |.Dq l live a1 a2 a3 r,Q,σ=>
  let K:=He live (fun ρ=>∃(I:St->Prop)(μ:St->Nat),I ρ/\∀τ,I τ->gx r (Gw l live (fun ρ'=>I ρ'/\μ ρ'<μ τ) Q) τ) Q
  gx a1 (fun x τ=>match x with|.normal=>gx a2 (fun x τ=>match x with|.normal=>gx a3 K τ|x=>K x τ) τ|x=>K x τ) σ
 |.label _,Q,σ=>Q .normal σ
 |.goto l,Q,σ=>Q (.goto l) σ
 |.ret,Q,σ=>Q .ret σ
 |.dead,_,_=>False
def Rm(l:Nat)(live:List (Nat×Bool))(r:IC)(Q:Exit->St->Prop)(ρ:St):Prop:=∃(I:St->Prop)(μ:St->Nat),I ρ/\∀τ,I τ->gx P r (Gw l live (fun ρ'=>I ρ'/\μ ρ'<μ τ) Q) τ
def AY(b:IC)(Q:Exit->St->Prop):Exit->St->Prop
 |.normal,τ=>gx P b Q τ
 |x,τ=>Q x τ
def wK(Q:Exit->St->Prop):Exit->St->Prop
 |.goto _,_=>False
 |x,τ=>Q x τ
def Lh(a b:IC)(Q:Exit->St->Prop)(σ:St):AV->Prop
 |.bool v=>(v=true->gx P a Q σ)/\(v=false->gx P b Q σ)
 |_=>False
end
section
variable(P:Program)(K:St->Prop)(Q:Exit->St->Prop)(σ τ:St)(d:Option Nat)
attribute[go_sem] Ua.eq_1
@[go_sem]theorem acR(o:aH)(r:List aH):Ua P (o::r) σ K=JH P o σ (acQ P r K):=rfl
attribute[go_sem] acQ.eq_1 aco.eq_1 Ei.eq_1
@[go_sem]theorem Iu(op:sj):JH P ⟨d,op,none⟩ σ K=Tb P op σ d K (pv op (xg true σ) σ):=rfl
attribute[go_sem] Zp.eq_1
@[go_sem]theorem aaz(op:sj)(t:Nat)(want:Bool):JH P ⟨d,op,some (t,want)⟩ σ K=yU P op d t want σ K (look σ.e t):=rfl
attribute[go_sem] gx.eq_18 gx.eq_1 gx.eq_2 gx.eq_3 gx.eq_5
@[go_sem]theorem adi(a b:IC):gx P (.seq a b) Q σ=gx P a (AY P b Q) σ:=by
  have:(fun x τ=>match x with|.normal=>gx P b Q τ|x=>Q x τ)=AY P b Q:=by funext x τ;cases x<;>rfl
  rw[<-this];rfl
@[go_sem]theorem aao(x:IX)(a b:IC):gx P (.cond x a b) Q σ=Lh P a b Q σ (σ.x x):=by
  show(match σ.x x with|.bool v=>(v=true->gx P a Q σ)/\(v=false->gx P b Q σ)|_=>False)=_
  cases σ.x x<;>rfl
attribute[go_sem] gx.eq_9 gx.eq_12 gx.eq_15 gx.eq_16 gx.eq_17 Lh.eq_1 AY.eq_1
@[go_sem]theorem acL(b:IC):AY P b Q .ret τ=Q .ret τ:=rfl
@[go_sem]theorem ZO(b:IC)(i:Nat):AY P b Q (.exit i) τ=Q (.exit i) τ:=rfl
@[go_sem]theorem ZP(b:IC)(i:Nat):AY P b Q (.goto i) τ=Q (.goto i) τ:=rfl
@[go_sem]theorem Ux(i:Nat):Mz i Q .normal τ=Q .normal τ:=rfl
@[go_sem]theorem aac(i:Nat):Mz i Q .ret τ=Q .ret τ:=rfl
@[go_sem]theorem YN(i l:Nat):Mz i Q (.goto l) τ=Q (.goto l) τ:=rfl
attribute[go_sem] Mz.eq_1 px.eq_1
@[go_sem]theorem Y4(live:List (Nat×Bool))(J:St->Prop):px live J Q .ret τ=Q .ret τ:=rfl
@[go_sem]theorem WX(live:List (Nat×Bool))(J:St->Prop)(i:Nat):px live J Q (.exit i) τ=Q (.exit i) τ:=rfl
@[go_sem]theorem WY(live:List (Nat×Bool))(J:St->Prop)(i:Nat):px live J Q (.goto i) τ=Q (.goto i) τ:=rfl
attribute[go_sem] gx.eq_6 NL.eq_1
@[go_sem]theorem cL(iP:List (List Bool))(ops:List aH)(K:St->Prop)(d:List Bool)(o:aH)(f:List aH):NL P iP ops K (o::f) d σ=K5 d iP [] d ops (fun o d=>JH P o σ (ada P iP ops K f d)):=rfl
@[go_sem]theorem dm(iP:List (List Bool))(ops:List aH)(K:St->Prop)(f:List aH)(d:List Bool)(τ:St):ada P iP ops K f d τ=NL P iP ops K f d τ:=rfl
attribute[go_sem] vo wR wQ
@[go_sem]theorem cg(done row pre xs:List Bool)(rows:List (List Bool))(x:Bool)(o:aH)(r:List aH)(F:aH->List Bool->Prop):K5 done (row::rows) pre (x::xs) (o::r) F=((bif !x&&vo row done then F o (wR pre (true::xs))else True)/\K5 done rows (x::pre) xs r F):=rfl
@[go_sem]theorem cK(done pre:List Bool)(F:aH->List Bool->Prop):K5 done [] pre [] [] F=True:=rfl
@[go_sem]theorem J0(l:Nat)(live:List (Nat×Bool))(a1 a2 a3 r:IC):gx P (.Dq l live a1 a2 a3 r) Q σ=gx P a1 (AY P a2 (AY P a3 (He live (Rm P l live r Q) Q))) σ:=by
  show gx P a1 (fun x τ=>match x with|.normal=>gx P a2 (fun x τ=>match x with|.normal=>gx P a3 (He live (Rm P l live r Q) Q) τ|x=>He live (Rm P l live r Q) Q x τ) τ|x=>He live (Rm P l live r Q) Q x τ) σ=_
  congr 1
  funext x τ
  cases x with
  |normal=>
   show gx P a2 _ τ=gx P a2 _ τ
   congr 1
   funext x τ
   cases x<;>rfl
  |_=>rfl
attribute[go_sem] He.eq_1
@[go_sem]theorem acK(live:List (Nat×Bool))(I:St->Prop):He live I Q .ret τ=Q .ret τ:=rfl
@[go_sem]theorem abc(l:Nat)(live:List (Nat×Bool))(I:St->Prop):Gw l live I Q .ret τ=Q .ret τ:=rfl
@[go_sem]theorem Y0(l:Nat)(live:List (Nat×Bool))(I:St->Prop)(i:Nat):Gw l live I Q (.exit i) τ=Q (.exit i) τ:=rfl
@[go_sem]theorem Y3(l:Nat)(live:List (Nat×Bool))(I:St->Prop):Gw l live I Q (.goto l) τ=I (τ.fk live):=by
  show(l=l/\I (τ.fk live))=_
  simp
attribute[go_sem] IY.eq_1
@[go_sem]theorem Xd(live:List (Nat×Bool))(I:St->Prop)(μ:St->Nat)(m i:Nat):IY live I μ m Q (.exit i) τ=Q (.exit i) τ:=rfl
end
section
@[go_sem]theorem YF:view (.undef)=(.undef):=rfl
@[go_sem]theorem aa5(b:Bool):ee (.bool b)=true:=rfl
@[go_sem]theorem acW(g:Bool)(b:Bool):vK g (.bool b)=(.bool b):=rfl
@[go_sem]theorem ZQ(b:Bool):view (.bool b)=(.bool b):=rfl
@[go_sem]theorem RM(b:Bool):cellsOf (.bool b)=[(.bool b)]:=rfl
@[go_sem]theorem Xg(σ:St)(i:Nat)(b:Bool):cu σ (.bool b) (some i)=σ:=rfl
@[go_sem]theorem adp(k:IntKind)(n:Int):ee (.int k n)=true:=rfl
@[go_sem]theorem ad9(g:Bool)(k:IntKind)(n:Int):vK g (.int k n)=(.int k n):=rfl
@[go_sem]theorem ac4(k:IntKind)(n:Int):view (.int k n)=(.int k n):=rfl
@[go_sem]theorem UD(k:IntKind)(n:Int):cellsOf (.int k n)=[(.int k n)]:=rfl
@[go_sem]theorem VE(k:IntKind)(n:Int):bM (.int k n)=[(.int k n)]:=rfl
@[go_sem]theorem Zc(σ:St)(i:Nat)(k:IntKind)(n:Int):cu σ (.int k n) (some i)=σ:=rfl
@[go_sem]theorem adr(s:List UInt8):ee (.str s)=true:=rfl
@[go_sem]theorem aec(g:Bool)(s:List UInt8):vK g (.str s)=(.str s):=rfl
@[go_sem]theorem ac7(s:List UInt8):view (.str s)=(.str s):=rfl
@[go_sem]theorem UF(s:List UInt8):cellsOf (.str s)=[(.str s)]:=rfl
@[go_sem]theorem Ze(σ:St)(i:Nat)(s:List UInt8):cu σ (.str s) (some i)=σ:=rfl
@[go_sem]theorem afd(t n:Nat)(cs:List AV):ee (.bb t n cs)=true:=rfl
attribute[go_sem] view.eq_4
@[go_sem]theorem Yr(t n:Nat)(cs:List AV):bM (.bb t n cs)=[.bb t n cs]:=rfl
@[go_sem]theorem aa7:ee (.l9)=true:=rfl
@[go_sem]theorem acY(g:Bool):vK g (.l9)=(.l9):=rfl
@[go_sem]theorem ZT:view (.l9)=(.l9):=rfl
@[go_sem]theorem Xi(σ:St)(i:Nat):cu σ (.l9) (some i)=σ:=rfl
@[go_sem]theorem UP:dU (.l9)=.l9:=rfl
attribute[go_sem] view.eq_3
@[go_sem]theorem aa8:ee (.fO)=true:=rfl
@[go_sem]theorem acZ(g:Bool):vK g (.fO)=(.fO):=rfl
@[go_sem]theorem ZU:view (.fO)=(.fO):=rfl
@[go_sem]theorem Xj(σ:St)(i:Nat):cu σ (.fO) (some i)=σ:=rfl
@[go_sem]theorem adq(b o:Nat):ee (.ref b o)=true:=rfl
@[go_sem]theorem aeb(g:Bool)(b o:Nat):vK g (.ref b o)=(.ref b o):=rfl
@[go_sem]theorem ac6(b o:Nat):view (.ref b o)=(.ref b o):=rfl
@[go_sem]theorem UE(b o:Nat):cellsOf (.ref b o)=[(.ref b o)]:=rfl
@[go_sem]theorem VF(b o:Nat):bM (.ref b o)=[(.ref b o)]:=rfl
@[go_sem]theorem Zd(σ:St)(i:Nat)(b o:Nat):cu σ (.ref b o) (some i)=σ:=rfl
@[go_sem]theorem afU(g:Bool)(b o:Nat):vK g (.lp b o)=(.lp b o):=rfl
attribute[go_sem] cu.eq_1
@[go_sem]theorem afW(g:Bool)(cs:List AV):vK g (.sp cs)=(.sp cs):=rfl
@[go_sem]theorem abp(σ:St)(i:Nat)(cs:List AV):cu σ (.sp cs) (some i)=σ:=rfl
@[go_sem]theorem aea(g:Bool)(cs:List AV):vK g (.loc cs)=(.loc cs):=rfl
@[go_sem]theorem ac5(cs:List AV):view (.loc cs)=(.loc cs):=rfl
@[go_sem]theorem aff(o:Bool)(z n:Nat)(cs:List AV):ee (.sl o z n cs)=true:=rfl
@[go_sem]theorem afV(g:Bool)(o:Bool)(z n:Nat)(cs:List AV):vK g (.sl o z n cs)=(.sl o z n cs):=rfl
attribute[go_sem] view.eq_1
@[go_sem]theorem V5(o:Bool)(z n:Nat)(cs:List AV):cellsOf (.sl o z n cs)=[(.sl o z n cs)]:=rfl
@[go_sem]theorem Ys(o:Bool)(z n:Nat)(cs:List AV):bM (.sl o z n cs)=[(.sl o z n cs)]:=rfl
@[go_sem]theorem abo(σ:St)(i:Nat)(o:Bool)(z n:Nat)(cs:List AV):cu σ (.sl o z n cs) (some i)=σ:=rfl
@[go_sem]theorem ado(b o l c:Nat):ee (.arr b o l c)=true:=rfl
@[go_sem]theorem ad8(g:Bool)(b o l c:Nat):vK g (.arr b o l c)=(.arr b o l c):=rfl
@[go_sem]theorem ac3(b o l c:Nat):view (.arr b o l c)=(.arr b o l c):=rfl
@[go_sem]theorem VD(b o l c:Nat):bM (.arr b o l c)=[(.arr b o l c)]:=rfl
@[go_sem]theorem Zb(σ:St)(i:Nat)(b o l c:Nat):cu σ (.arr b o l c) (some i)=σ:=rfl
@[go_sem]theorem adn(cs:List AV):ee (.agg cs)=true:=rfl
@[go_sem]theorem ad7(g:Bool)(cs:List AV):vK g (.agg cs)=(.agg cs):=rfl
@[go_sem]theorem ac2(cs:List AV):view (.agg cs)=(.agg cs):=rfl
attribute[go_sem] cellsOf.eq_1 bM.eq_1
@[go_sem]theorem Za(σ:St)(i:Nat)(cs:List AV):cu σ (.agg cs) (some i)=σ:=rfl
@[go_sem]theorem aed(g:Bool)(cs:List AV):vK g (.jV cs)=(.jV cs):=rfl
@[go_sem]theorem Zg(σ:St)(i:Nat)(cs:List AV):cu σ (.jV cs) (some i)=σ:=rfl
@[go_sem]theorem afe(f:Nat)(x y:List AV):ee (.fn f x y)=true:=rfl
@[go_sem]theorem afT(g:Bool)(f:Nat)(x y:List AV):vK g (.fn f x y)=(.fn f x y):=rfl
@[go_sem]theorem aef(f:Nat)(x y:List AV):view (.fn f x y)=(.fn f x y):=rfl
@[go_sem]theorem abn(σ:St)(i:Nat)(f:Nat)(x y:List AV):cu σ (.fn f x y) (some i)=σ:=rfl
@[go_sem]theorem aa6:ee (.p8)=true:=rfl
@[go_sem]theorem acX(g:Bool):vK g (.p8)=(.p8):=rfl
@[go_sem]theorem ZR:view (.p8)=(.p8):=rfl
@[go_sem]theorem Xh(σ:St)(i:Nat):cu σ (.p8) (some i)=σ:=rfl
@[go_sem]theorem Tz(f:IX->AV)(σ:St)(x:IX):pv (.oU true x) f σ=.no:=rfl
@[go_sem]theorem XV(f:IX->AV)(σ:St)(z:List AV):pv (.lQ z) f σ=.no:=rfl
@[go_sem]theorem XW(f:IX->AV)(σ:St)(z:List AV):pv (.nv z) f σ=.no:=rfl
@[go_sem]theorem ab0(f:IX->AV)(σ:St)(n:Nat)(x:IX):pv (.HJ n x) f σ=.no:=rfl
@[go_sem]theorem ab2(f:IX->AV)(σ:St)(n:Nat)(x:IX):pv (.Ad n x) f σ=.no:=rfl
@[go_sem]theorem Vq(f:IX->AV)(σ:St)(a b:Nat)(z:List AV)(p:List (Nat×Nat×IX)):pv (.iZ a b z p) f σ=.no:=rfl
@[go_sem]theorem Zy(f:IX->AV)(σ:St)(n:Nat)(p v:IX):pv (.store n p v) f σ=.no:=rfl
@[go_sem]theorem KN(f:IX->AV)(σ:St)(a b:Nat)(x y:IX):pv (.append a b x y) f σ=.no:=rfl
@[go_sem]theorem XM(f:IX->AV)(σ:St)(x:IX):pv (.jM x) f σ=ru (f x):=rfl
attribute[go_sem] ru.eq_1 VG.eq_1 Om.eq_1
@[go_sem]theorem Ty(f:IX->AV)(σ:St)(x:IX):pv (.iw x) f σ=.no:=rfl
@[go_sem]theorem XY(f:IX->AV)(σ:St)(a b:Nat)(z:List AV)(x y:IX):pv (.l8 a b z x y) f σ=.no:=rfl
@[go_sem]theorem ab4(f:IX->AV)(σ:St)(n:Nat)(l:List IX):pv (.call n l) f σ=.no:=rfl
@[go_sem]theorem Zu(f:IX->AV)(σ:St)(x:IX)(l:List IX):pv (.iq x l) f σ=.no:=rfl
@[go_sem]theorem WR(b:Bool):inner (.bool b)=true:=rfl
@[go_sem]theorem YX(k:IntKind)(n:Int):inner (.int k n)=true:=rfl
@[go_sem]theorem YZ(s:List UInt8):inner (.str s)=true:=rfl
@[go_sem]theorem WS:inner (.fO)=true:=rfl
@[go_sem]theorem YY(b o:Nat):inner (.ref b o)=true:=rfl
@[go_sem]theorem aa1(b o:Nat):inner (.lp b o)=true:=rfl
@[go_sem]theorem aa3(cs:List AV):inner (.sp cs)=true:=rfl
@[go_sem]theorem aa2(o:Bool)(z n:Nat)(cs:List AV):inner (.sl o z n cs)=true:=rfl
@[go_sem]theorem YW(b o l c:Nat):inner (.arr b o l c)=true:=rfl
@[go_sem]theorem YV(cs:List AV):inner (.agg cs)=true:=rfl
@[go_sem]theorem Rt(g:Bool)(a:AV):vK g (.when g a)=bif inner a then a else .undef:=by simp[vK]
@[go_sem]theorem aaw(x:Bool):Wu (.bool x)=some (true,x):=rfl
@[go_sem]theorem aax(b x:Bool):Wu (.when b (.bool x))=some (b,x):=rfl
attribute[go_sem] Wu.eq_1
@[go_sem]theorem afj(g b:Bool):(g=true->b=true->(g&&b)=true)=True:=by cases g<;>cases b<;>simp
@[go_sem]theorem afk(g b:Bool):(g=true->b=false->(g&&!b)=true)=True:=by cases g<;>cases b<;>simp
@[go_sem]theorem afl(b:Bool):(b=false->(!b)=true)=True:=by cases b<;>simp
@[go_sem]theorem aan(b x:Bool):(bif b then x else false)=(b&&x):=η
@[go_sem]theorem adh(b x:Bool):(bif b then true else x)=(b||x):=η
@[go_sem]theorem af8(b:Bool):(b==true)=b:=η
@[go_sem]theorem af7(b:Bool):(b==false)=!b:=η
@[go_sem]theorem abd(k:IntKind):SH k k=true:=by simp[SH]
@[go_sem]theorem acH:ku []=true:=rfl
@[go_sem]theorem acI(a b:AV)(l:List AV):ku (a::b::l)=true:=rfl
@[go_sem]theorem acD:fS []=.jV []:=rfl
@[go_sem]theorem acE(a b:AV)(l:List AV):fS (a::b::l)=.jV (a::b::l):=rfl
@[go_sem]theorem ZV:views []=[]:=rfl
@[go_sem]theorem YG(a:AV)(l:List AV):views (a::l)=view a::views l:=rfl
attribute[go_sem] St.x.eq_1 St.x.eq_2 St.put.eq_1 St.put.eq_2 look.eq_1 look.eq_2
section
variable(P:Program)(K:St->Prop)(σ:St)
attribute[go_sem] X9.eq_1
@[go_sem]theorem acp(q:Nat)(o:aH)(r:List aH):X9 P (q+1) (o::r) σ K=(aU σ o.dst=true/\q1 P o σ (aco P q r K)):=rfl
@[go_sem]theorem afv(d:Option Nat)(x:IX):q1 P ⟨d,.oU false x,none⟩ σ K=qK σ d K (qv ⟨d,.oU false x,none⟩ σ):=rfl
@[go_sem]theorem afA(d:Option Nat)(x:IX):q2 P ⟨d,.oU false x,none⟩ σ K=(aU σ d=true/\qK σ d K (qv ⟨d,.oU false x,none⟩ σ)):=G_
@[go_sem]theorem adM(d:Option Nat)(t:Nat)(want:Bool)(x:IX):q1 P ⟨d,.oU false x,(some (t,want))⟩ σ K=qK σ d K (qv ⟨d,.oU false x,(some (t,want))⟩ σ):=rfl
@[go_sem]theorem adR(d:Option Nat)(t:Nat)(want:Bool)(x:IX):q2 P ⟨d,.oU false x,(some (t,want))⟩ σ K=(aU σ d=true/\qK σ d K (qv ⟨d,.oU false x,(some (t,want))⟩ σ)):=G_
@[go_sem]theorem adN(d:Option Nat)(c x y:IX):q1 P ⟨d,.pick c x y,none⟩ σ K=qK σ d K (qv ⟨d,.pick c x y,none⟩ σ):=rfl
@[go_sem]theorem adU(d:Option Nat)(c x y:IX):q2 P ⟨d,.pick c x y,none⟩ σ K=(aU σ d=true/\qK σ d K (qv ⟨d,.pick c x y,none⟩ σ)):=G_
@[go_sem]theorem aca(d:Option Nat)(t:Nat)(want:Bool)(c x y:IX):q1 P ⟨d,.pick c x y,(some (t,want))⟩ σ K=qK σ d K (qv ⟨d,.pick c x y,(some (t,want))⟩ σ):=rfl
@[go_sem]theorem aci(d:Option Nat)(t:Nat)(want:Bool)(c x y:IX):q2 P ⟨d,.pick c x y,(some (t,want))⟩ σ K=(aU σ d=true/\qK σ d K (qv ⟨d,.pick c x y,(some (t,want))⟩ σ)):=G_
@[go_sem]theorem ab7(d:Option Nat)(z:List AV)(ps:List (Nat×Nat×IX)):q1 P ⟨d,.build z ps,none⟩ σ K=qK σ d K (qv ⟨d,.build z ps,none⟩ σ):=rfl
@[go_sem]theorem acd(d:Option Nat)(z:List AV)(ps:List (Nat×Nat×IX)):q2 P ⟨d,.build z ps,none⟩ σ K=(aU σ d=true/\qK σ d K (qv ⟨d,.build z ps,none⟩ σ)):=G_
@[go_sem]theorem adL(d:Option Nat)(n:Nat)(m:Bool)(x:IX):q1 P ⟨d,.load n m x,none⟩ σ K=qK σ d K (qv ⟨d,.load n m x,none⟩ σ):=rfl
@[go_sem]theorem adQ(d:Option Nat)(n:Nat)(m:Bool)(x:IX):q2 P ⟨d,.load n m x,none⟩ σ K=(aU σ d=true/\qK σ d K (qv ⟨d,.load n m x,none⟩ σ)):=G_
@[go_sem]theorem ab8(d:Option Nat)(t:Nat)(want:Bool)(n:Nat)(m:Bool)(x:IX):q1 P ⟨d,.load n m x,(some (t,want))⟩ σ K=qK σ d K (qv ⟨d,.load n m x,(some (t,want))⟩ σ):=rfl
@[go_sem]theorem acg(d:Option Nat)(t:Nat)(want:Bool)(n:Nat)(m:Bool)(x:IX):q2 P ⟨d,.load n m x,(some (t,want))⟩ σ K=(aU σ d=true/\qK σ d K (qv ⟨d,.load n m x,(some (t,want))⟩ σ)):=G_
@[go_sem]theorem Vs(d:Option Nat)(x:IX):q1 P ⟨d,.nilCheck x,none⟩ σ K=qK σ d K (qv ⟨d,.nilCheck x,none⟩ σ):=rfl
@[go_sem]theorem Vt(d:Option Nat)(x:IX):q2 P ⟨d,.nilCheck x,none⟩ σ K=(aU σ d=true/\qK σ d K (qv ⟨d,.nilCheck x,none⟩ σ)):=G_
@[go_sem]theorem TC(d:Option Nat)(t:Nat)(want:Bool)(x:IX):q1 P ⟨d,.nilCheck x,(some (t,want))⟩ σ K=qK σ d K (qv ⟨d,.nilCheck x,(some (t,want))⟩ σ):=rfl
@[go_sem]theorem TF(d:Option Nat)(t:Nat)(want:Bool)(x:IX):q2 P ⟨d,.nilCheck x,(some (t,want))⟩ σ K=(aU σ d=true/\qK σ d K (qv ⟨d,.nilCheck x,(some (t,want))⟩ σ)):=G_
@[go_sem]theorem afs(d:Option Nat)(b:BinOp)(x y:IX):q1 P ⟨d,.bin b x y,none⟩ σ K=qK σ d K (qv ⟨d,.bin b x y,none⟩ σ):=rfl
@[go_sem]theorem afx(d:Option Nat)(b:BinOp)(x y:IX):q2 P ⟨d,.bin b x y,none⟩ σ K=(aU σ d=true/\qK σ d K (qv ⟨d,.bin b x y,none⟩ σ)):=G_
@[go_sem]theorem adK(d:Option Nat)(t:Nat)(want:Bool)(b:BinOp)(x y:IX):q1 P ⟨d,.bin b x y,(some (t,want))⟩ σ K=qK σ d K (qv ⟨d,.bin b x y,(some (t,want))⟩ σ):=rfl
@[go_sem]theorem adO(d:Option Nat)(t:Nat)(want:Bool)(b:BinOp)(x y:IX):q2 P ⟨d,.bin b x y,(some (t,want))⟩ σ K=(aU σ d=true/\qK σ d K (qv ⟨d,.bin b x y,(some (t,want))⟩ σ)):=G_
@[go_sem]theorem aft(d:Option Nat)(n:Bool)(x y:IX):q1 P ⟨d,.NM n x y,none⟩ σ K=qK σ d K (qv ⟨d,.NM n x y,none⟩ σ):=rfl
@[go_sem]theorem afy(d:Option Nat)(n:Bool)(x y:IX):q2 P ⟨d,.NM n x y,none⟩ σ K=(aU σ d=true/\qK σ d K (qv ⟨d,.NM n x y,none⟩ σ)):=G_
@[go_sem]theorem agF(d:Option Nat)(u:UnOp)(x:IX):q1 P ⟨d,.un u x,none⟩ σ K=qK σ d K (qv ⟨d,.un u x,none⟩ σ):=rfl
@[go_sem]theorem agG(d:Option Nat)(u:UnOp)(x:IX):q2 P ⟨d,.un u x,none⟩ σ K=(aU σ d=true/\qK σ d K (qv ⟨d,.un u x,none⟩ σ)):=G_
@[go_sem]theorem afw(d:Option Nat)(t:Nat)(want:Bool)(u:UnOp)(x:IX):q1 P ⟨d,.un u x,(some (t,want))⟩ σ K=qK σ d K (qv ⟨d,.un u x,(some (t,want))⟩ σ):=rfl
@[go_sem]theorem afB(d:Option Nat)(t:Nat)(want:Bool)(u:UnOp)(x:IX):q2 P ⟨d,.un u x,(some (t,want))⟩ σ K=(aU σ d=true/\qK σ d K (qv ⟨d,.un u x,(some (t,want))⟩ σ)):=G_
@[go_sem]theorem Zz(d:Option Nat)(k:IntKind)(x:IX):q1 P ⟨d,.ko k x,none⟩ σ K=qK σ d K (qv ⟨d,.ko k x,none⟩ σ):=rfl
@[go_sem]theorem ZG(d:Option Nat)(k:IntKind)(x:IX):q2 P ⟨d,.ko k x,none⟩ σ K=(aU σ d=true/\qK σ d K (qv ⟨d,.ko k x,none⟩ σ)):=G_
@[go_sem]theorem XZ(d:Option Nat)(t:Nat)(want:Bool)(k:IntKind)(x:IX):q1 P ⟨d,.ko k x,(some (t,want))⟩ σ K=qK σ d K (qv ⟨d,.ko k x,(some (t,want))⟩ σ):=rfl
@[go_sem]theorem X5(d:Option Nat)(t:Nat)(want:Bool)(k:IntKind)(x:IX):q2 P ⟨d,.ko k x,(some (t,want))⟩ σ K=(aU σ d=true/\qK σ d K (qv ⟨d,.ko k x,(some (t,want))⟩ σ)):=G_
@[go_sem]theorem ZD(d:Option Nat)(x i:IX):q1 P ⟨d,.kv x i,none⟩ σ K=qK σ d K (qv ⟨d,.kv x i,none⟩ σ):=rfl
@[go_sem]theorem ZM(d:Option Nat)(x i:IX):q2 P ⟨d,.kv x i,none⟩ σ K=(aU σ d=true/\qK σ d K (qv ⟨d,.kv x i,none⟩ σ)):=G_
@[go_sem]theorem X3(d:Option Nat)(t:Nat)(want:Bool)(x i:IX):q1 P ⟨d,.kv x i,(some (t,want))⟩ σ K=qK σ d K (qv ⟨d,.kv x i,(some (t,want))⟩ σ):=rfl
@[go_sem]theorem X7(d:Option Nat)(t:Nat)(want:Bool)(x i:IX):q2 P ⟨d,.kv x i,(some (t,want))⟩ σ K=(aU σ d=true/\qK σ d K (qv ⟨d,.kv x i,(some (t,want))⟩ σ)):=G_
@[go_sem]theorem TA(d:Option Nat)(f:Nat)(x:IX):q1 P ⟨d,.fieldAddr f x,none⟩ σ K=qK σ d K (qv ⟨d,.fieldAddr f x,none⟩ σ):=rfl
@[go_sem]theorem TD(d:Option Nat)(f:Nat)(x:IX):q2 P ⟨d,.fieldAddr f x,none⟩ σ K=(aU σ d=true/\qK σ d K (qv ⟨d,.fieldAddr f x,none⟩ σ)):=G_
@[go_sem]theorem Rp(d:Option Nat)(t:Nat)(want:Bool)(f:Nat)(x:IX):q1 P ⟨d,.fieldAddr f x,(some (t,want))⟩ σ K=qK σ d K (qv ⟨d,.fieldAddr f x,(some (t,want))⟩ σ):=rfl
@[go_sem]theorem Rr(d:Option Nat)(t:Nat)(want:Bool)(f:Nat)(x:IX):q2 P ⟨d,.fieldAddr f x,(some (t,want))⟩ σ K=(aU σ d=true/\qK σ d K (qv ⟨d,.fieldAddr f x,(some (t,want))⟩ σ)):=G_
@[go_sem]theorem TB(d:Option Nat)(z:List AV)(x i:IX):q1 P ⟨d,.indexAddr z x i,none⟩ σ K=qK σ d K (qv ⟨d,.indexAddr z x i,none⟩ σ):=rfl
@[go_sem]theorem TE(d:Option Nat)(z:List AV)(x i:IX):q2 P ⟨d,.indexAddr z x i,none⟩ σ K=(aU σ d=true/\qK σ d K (qv ⟨d,.indexAddr z x i,none⟩ σ)):=G_
@[go_sem]theorem Rq(d:Option Nat)(t:Nat)(want:Bool)(z:List AV)(x i:IX):q1 P ⟨d,.indexAddr z x i,(some (t,want))⟩ σ K=qK σ d K (qv ⟨d,.indexAddr z x i,(some (t,want))⟩ σ):=rfl
@[go_sem]theorem Rs(d:Option Nat)(t:Nat)(want:Bool)(z:List AV)(x i:IX):q2 P ⟨d,.indexAddr z x i,(some (t,want))⟩ σ K=(aU σ d=true/\qK σ d K (qv ⟨d,.indexAddr z x i,(some (t,want))⟩ σ)):=G_
@[go_sem]theorem acb(d:Option Nat)(z:Nat)(x:IX)(lo hi mx:Option IX):q1 P ⟨d,.slice z x lo hi mx,none⟩ σ K=qK σ d K (qv ⟨d,.slice z x lo hi mx,none⟩ σ):=rfl
@[go_sem]theorem acj(d:Option Nat)(z:Nat)(x:IX)(lo hi mx:Option IX):q2 P ⟨d,.slice z x lo hi mx,none⟩ σ K=(aU σ d=true/\qK σ d K (qv ⟨d,.slice z x lo hi mx,none⟩ σ)):=G_
@[go_sem]theorem ZE(d:Option Nat)(x:IX)(lo hi:Option IX):q1 P ⟨d,.ny x lo hi,none⟩ σ K=qK σ d K (qv ⟨d,.ny x lo hi,none⟩ σ):=rfl
@[go_sem]theorem ZN(d:Option Nat)(x:IX)(lo hi:Option IX):q2 P ⟨d,.ny x lo hi,none⟩ σ K=(aU σ d=true/\qK σ d K (qv ⟨d,.ny x lo hi,none⟩ σ)):=G_
@[go_sem]theorem X0(d:Option Nat)(x:IX)(k:Nat):q1 P ⟨d,.extract x k,none⟩ σ K=qK σ d K (qv ⟨d,.extract x k,none⟩ σ):=rfl
@[go_sem]theorem X6(d:Option Nat)(x:IX)(k:Nat):q2 P ⟨d,.extract x k,none⟩ σ K=(aU σ d=true/\qK σ d K (qv ⟨d,.extract x k,none⟩ σ)):=G_
@[go_sem]theorem afu(d:Option Nat)(c:Nat)(x:IX):q1 P ⟨d,.len c x,none⟩ σ K=qK σ d K (qv ⟨d,.len c x,none⟩ σ):=rfl
@[go_sem]theorem afz(d:Option Nat)(c:Nat)(x:IX):q2 P ⟨d,.len c x,none⟩ σ K=(aU σ d=true/\qK σ d K (qv ⟨d,.len c x,none⟩ σ)):=G_
@[go_sem]theorem ZC(d:Option Nat)(m:Bool)(xs:List IX):q1 P ⟨d,.mD m xs,none⟩ σ K=qK σ d K (qv ⟨d,.mD m xs,none⟩ σ):=rfl
@[go_sem]theorem ZK(d:Option Nat)(m:Bool)(xs:List IX):q2 P ⟨d,.mD m xs,none⟩ σ K=(aU σ d=true/\qK σ d K (qv ⟨d,.mD m xs,none⟩ σ)):=G_
attribute[go_sem] q1.eq_2
@[go_sem]theorem adT(d:Option Nat)(x:IX):q2 P ⟨d,.oU true x,none⟩ σ K=(aU σ d=true/\PK σ x d K (σ.x x)):=G_
attribute[go_sem] q1.eq_1
@[go_sem]theorem adP(d:Option Nat)(f:Nat)(args:List IX):q2 P ⟨d,.call f args,none⟩ σ K=(aU σ d=true/\Qp P f σ d K (cQ (xg true σ) args)):=G_
attribute[go_sem] q1.eq_3
@[go_sem]theorem ace(d:Option Nat)(f:Nat)(args:List IX)(t:Nat)(want:Bool):q2 P ⟨d,.call f args,some (t,want)⟩ σ K=(aU σ d=true/\CV P f args want σ d K (look σ.e t)):=G_
@[go_sem]theorem ZA(d:Option Nat)(x:IX):q1 P ⟨d,.jM x,none⟩ σ K=qK σ d K (qv ⟨d,.jM x,none⟩ σ):=rfl
@[go_sem]theorem ZH(d:Option Nat)(x:IX):q2 P ⟨d,.jM x,none⟩ σ K=(aU σ d=true/\qK σ d K (qv ⟨d,.jM x,none⟩ σ)):=G_
attribute[go_sem] q1.eq_7
@[go_sem]theorem X4(d:Option Nat)(sz n:Nat)(z:List AV)(ps:List (Nat×Nat×IX))(g:Option (Nat×Bool)):q2 P ⟨d,.iZ sz n z ps,g⟩ σ K=(aU σ d=true/\qK σ d K (D8 ⟨d,.iZ sz n z ps,g⟩ σ)):=G_
@[go_sem]theorem ab9(d:Option Nat)(z:List AV)(m:Bool)(x:IX):q1 P ⟨d,.kj z m x,none⟩ σ K=qK σ d K (qv ⟨d,.kj z m x,none⟩ σ):=rfl
@[go_sem]theorem ach(d:Option Nat)(z:List AV)(m:Bool)(x:IX):q2 P ⟨d,.kj z m x,none⟩ σ K=(aU σ d=true/\qK σ d K (qv ⟨d,.kj z m x,none⟩ σ)):=G_
@[go_sem]theorem ZB(d:Option Nat)(t:Nat)(want:Bool)(z:List AV)(m:Bool)(x:IX):q1 P ⟨d,.kj z m x,(some (t,want))⟩ σ K=qK σ d K (qv ⟨d,.kj z m x,(some (t,want))⟩ σ):=rfl
@[go_sem]theorem ZJ(d:Option Nat)(t:Nat)(want:Bool)(z:List AV)(m:Bool)(x:IX):q2 P ⟨d,.kj z m x,(some (t,want))⟩ σ K=(aU σ d=true/\qK σ d K (qv ⟨d,.kj z m x,(some (t,want))⟩ σ)):=G_
@[go_sem]theorem Zr(f:IX->AV)(σ:St)(z:List AV)(m:Bool)(x:IX):pv (.kj z m x) f σ=E5 z m σ.s (f x):=rfl
@[go_sem]theorem Vr(f:IX->AV)(σ:St)(x:IX):pv (.my x) f σ=.no:=rfl
attribute[go_sem] ki.eq_14 q1.eq_9
@[go_sem]theorem ZL(d:Option Nat)(x:IX)(g:Option (Nat×Bool)):q2 P ⟨d,.ve x,g⟩ σ K=(aU σ d=true/\qK σ d K (D8 ⟨d,.ve x,g⟩ σ)):=G_
@[go_sem]theorem Zx(f:IX->AV)(σ:St)(x:IX):pv (.ve x) f σ=.no:=rfl
attribute[go_sem] ki.eq_15 qe.eq_4
@[go_sem]theorem ack(d:Option Nat)(o:sj):D8 ⟨d,o,none⟩ σ=qe (xg true σ) σ.s o:=rfl
attribute[go_sem] qe.eq_2
attribute[go_sem] Di.eq_1
attribute[go_sem] DE.eq_1 E5.eq_1 IV.eq_1 Ts.eq_1 Ts.eq_2 Ts.eq_3
attribute[go_sem] uq.eq_1 Fu.eq_1
@[go_sem]theorem adV(d:Option Nat)(o:sj):qv ⟨d,o,none⟩ σ=pv o (xg true σ) σ:=rfl
@[go_sem]theorem adW(d:Option Nat)(o:sj)(t:Nat)(want:Bool):qv ⟨d,o,some (t,want)⟩ σ=Ji o want σ (look σ.e t):=rfl
@[go_sem]theorem adG(f:IX->AV)(σ:St)(x:IX):pv (.cap x) f σ=JS (f x):=rfl
@[go_sem]theorem XU(f:IX->AV)(σ:St)(z:Nat)(x:IX)(lo hi:Option IX)(m:IX):pv (.slice z x lo hi (some m)) f σ=pK z f lo hi m (f x):=rfl
@[go_sem]theorem Tx(f:IX->AV)(σ:St)(a b:Nat)(z:List AV)(p:List (Nat×Nat×IX)):pv (.mZ a b z p) f σ=.no:=rfl
@[go_sem]theorem Vn(f:IX->AV)(σ:St)(a b:Nat)(z:List AV)(x y:IX):pv (.pd a b z x y) f σ=.no:=rfl
@[go_sem]theorem Vp(f:IX->AV)(σ:St)(a b:Nat)(z:List AV)(x y:IX):pv (.pj a b z x y) f σ=.no:=rfl
attribute[go_sem] ki.eq_18
@[go_sem]theorem XX(f:IX->AV)(σ:St)(z:List AV)(x:IX):pv (.sO z x) f σ=.no:=rfl
@[go_sem]theorem adJ(f:IX->AV)(σ:St)(a:Nat)(o:Bool)(x:IX):pv (.R6 a o x) f σ=.no:=rfl
@[go_sem]theorem Nl(f:IX->AV)(σ:St)(off:Nat)(j x:IX):pv (.nG off j x) f σ=.no:=rfl
@[go_sem]theorem Zv(f:IX->AV)(σ:St)(x:IX):pv (.nE x) f σ=.no:=rfl
@[go_sem]theorem adI(f:IX->AV)(σ:St)(o:Bool)(x:IX):pv (.UW o x) f σ=.no:=rfl
attribute[go_sem] ki.eq_16 ki.eq_17 ki.eq_19 ki.eq_20
attribute[go_sem] R7
attribute[go_sem] ki.eq_22 ki.eq_24 q1.eq_4
@[go_sem]theorem acf(d:Option Nat)(x:IX)(args:List IX):q2 P ⟨d,.iq x args,none⟩ σ K=(aU σ d=true/\KO P σ (cQ (xg true σ) args) d K (xg true σ x)):=G_
attribute[go_sem] q1.eq_5
@[go_sem]theorem ZF(d:Option Nat)(x:IX)(args:List IX)(t:Nat)(want:Bool):q2 P ⟨d,.iq x args,some (t,want)⟩ σ K=(aU σ d=true/\Bm P x args want σ d K (look σ.e t)):=G_
attribute[go_sem] KO.eq_1 L7.eq_1 Bm.eq_1
@[go_sem]theorem adH(f:IX->AV)(σ:St)(ne:Bool)(x:IX):pv (.RZ ne x) f σ=Io ne (f x):=rfl
@[go_sem]theorem adl(ne:Bool)(b o:Nat):DV ne (.ref b o) (.ref b o)=.dG (.bool (!ne)):=by simp[DV]
@[go_sem]theorem ab6(f:IX->AV)(σ:St)(x:IX):pv (.H8 x) f σ=.no:=rfl
@[go_sem]theorem ab5(f:IX->AV)(σ:St)(u:Nat)(x:IX):pv (.H7 u x) f σ=.no:=rfl
@[go_sem]theorem ab3(f:IX->AV)(σ:St)(n t j u:Nat)(x:IX):pv (.HL n t j u x) f σ=.no:=rfl
@[go_sem]theorem Vo(f:IX->AV)(σ:St)(t:Nat)(x y:IX):pv (.ph t x y) f σ=.no:=rfl
attribute[go_sem] ki.eq_27 ki.eq_28 ki.eq_30 ki.eq_26
@[go_sem]theorem Zt(f:IX->AV)(σ:St)(g:Nat)(x:IX):pv (.zG g x) f σ=.no:=rfl
attribute[go_sem] ki.eq_29
@[go_sem]theorem Zw(f:IX->AV)(σ:St)(z:Nat)(o:Bool)(x:IX):pv (.zU z o x) f σ=.no:=rfl
attribute[go_sem] ki.eq_21
attribute[go_sem] Kv.eq_1 sI.eq_1 sI.eq_2 JR Io.eq_1 UC Lm.eq_1 Ll.eq_1 Ot.eq_1 Oq.eq_1
@[go_sem]theorem ab1(f:IX->AV)(σ:St)(z n:Nat)(x:IX):pv (.HK z n x) f σ=.no:=rfl
attribute[go_sem] ki.eq_25
attribute[go_sem] xU.eq_1
@[go_sem]theorem abB(z:Nat)(k:IntKind)(n:Int):xU z (.int k n)=.int k n:=rfl
@[go_sem]theorem adz(z:Nat)(o:Bool)(s n:Nat)(cs:List AV):xU z (.sl o s n cs)=.sl o s n cs:=rfl
@[go_sem]theorem abC(z b o:Nat):xU z (.ref b o)=.ref b o:=rfl
attribute[go_sem] UA
@[go_sem]theorem Zs(f:IX->AV)(σ:St)(g i:Nat)(xs:List IX):pv (.zF g i xs) f σ=.no:=rfl
attribute[go_sem] ki.eq_31
attribute[go_sem] JS.eq_1 pK.eq_1 zr.eq_1 yM.eq_1 OI.eq_1 OI.eq_2
attribute[go_sem] Hy.eq_1
@[go_sem]theorem agc(T:List Nat)(i:Nat)(o:aH)(r:List (Nat×Nat×aH)):Hy P T ((0,i,o)::r) σ K=q2 P o σ (Oa P T r K):=rfl
@[go_sem]theorem agd(T:List Nat)(i:Nat)(o:aH)(r:List (Nat×Nat×aH)):Hy P T ((1,i,o)::r) σ K=(nr o σ=true/\q2 P o σ (Oa P T r K)):=rfl
@[go_sem]theorem age(T:List Nat)(i:Nat)(o:aH)(r:List (Nat×Nat×aH)):Hy P T ((2,i,o)::r) σ K=Rj P o σ (Oa P T r K):=rfl
@[go_sem]theorem agf(T:List Nat)(i:Nat)(o:aH)(r:List (Nat×Nat×aH)):Hy P T ((3,i,o)::r) σ K=JH P o σ (Oa P T r K):=rfl
attribute[go_sem] Oa.eq_1
@[go_sem]theorem Z6(d:Option Nat)(f:Nat)(args:List IX):Rj P ⟨d,.call f args,none⟩ σ K=(aU σ d=true/\vu P f σ d K (cQ (xg true σ) args)):=by
  show(aU σ d=true/\yL P f σ.s (Ri σ d K) (cQ (xg true σ) args))=_
  cases cQ (xg true σ) args<;>rfl
@[go_sem]theorem YK(d:Option Nat)(n:Nat)(p v:IX):Rj P ⟨d,.store n p v,none⟩ σ K=(aU σ d=true/\pk n σ.s (Ri σ d K) (σ.x v) (σ.x p)):=rfl
@[go_sem]theorem YJ(d:Option Nat)(x:IX):Rj P ⟨d,.nE x,none⟩ σ K=(aU σ d=true/\oj σ.s (Ri σ d K) (σ.x x)):=rfl
attribute[go_sem] Ri.eq_1 pk.eq_1 La.eq_1
attribute[go_sem] nr
@[go_sem]theorem Zi(k:IntKind)(n:Int):I4 (.int k n)=true:=rfl
@[go_sem]theorem abE(cs:List AV):lh (.sp cs)=true:=rfl
@[go_sem]theorem Zj(cs:List AV):lh (.loc cs)=true:=rfl
attribute[go_sem] nh.eq_1 nh.eq_2 wE.eq_1 wE.eq_2 oG.eq_1
attribute[go_sem] Vu.eq_1 q2.eq_1 q2.eq_2
attribute[go_sem] q2.eq_3
@[go_sem]theorem Xe(c':Nat)(b:Bool):oG c' (.bool b)=true:=rfl
@[go_sem]theorem Y6(c':Nat)(k:IntKind)(n:Int):oG c' (.int k n)=true:=rfl
@[go_sem]theorem Xf(c':Nat):oG c' (.fO)=true:=rfl
@[go_sem]theorem Y8(c':Nat)(b o:Nat):oG c' (.ref b o)=true:=rfl
@[go_sem]theorem Y7(c':Nat)(cs:List AV):oG c' (.loc cs)=true:=rfl
@[go_sem]theorem abm(c':Nat)(o:Bool)(s n:Nat)(cs:List AV):oG c' (.sl o s n cs)=true:=rfl
@[go_sem]theorem Y5(c':Nat)(cs:List AV):oG c' (.agg cs)=true:=rfl
@[go_sem]theorem Y9(c':Nat)(cs:List AV):oG c' (.jV cs)=true:=rfl
attribute[go_sem] aU.eq_2 aU.eq_1
@[go_sem]theorem Vh(b:Bool)(a:AV):b8 (.when b a)=true:=rfl
@[go_sem]theorem Zm(b o:Nat):b8 (.lp b o)=true:=rfl
@[go_sem]theorem S0:b8 (.undef)=true:=rfl
@[go_sem]theorem Vf(b:Bool):b8 (.bool b)=true:=rfl
@[go_sem]theorem Xt(k:IntKind)(n:Int):b8 (.int k n)=true:=rfl
@[go_sem]theorem Xv(s:List UInt8):b8 (.str s)=true:=rfl
@[go_sem]theorem Vg:b8 (.fO)=true:=rfl
@[go_sem]theorem Xu(b o:Nat):b8 (.ref b o)=true:=rfl
@[go_sem]theorem Zo(cs:List AV):b8 (.sp cs)=true:=rfl
@[go_sem]theorem Zn(o:Bool)(z n:Nat)(cs:List AV):b8 (.sl o z n cs)=true:=rfl
@[go_sem]theorem Xs(b o l c:Nat):b8 (.arr b o l c)=true:=rfl
@[go_sem]theorem Xr(cs:List AV):b8 (.agg cs)=true:=rfl
@[go_sem]theorem Xw(cs:List AV):b8 (.jV cs)=true:=rfl
@[go_sem]theorem Zl(f:Nat)(x y:List AV):b8 (.fn f x y)=true:=rfl
attribute[go_sem] Yi.eq_1
attribute[go_sem] Uk.eq_1 Uk.eq_2 Uk.eq_3 NJ.eq_1 NJ.eq_2 NJ.eq_3 Ji.eq_1 Ji.eq_2 qK.eq_1 qK.eq_2 qK.eq_3 Qp.eq_1 CV.eq_1 CV.eq_2 afC.eq_1
end
@[go_sem]theorem RU:dU (.undef)=.undef:=rfl
@[go_sem]theorem UO(b:Bool):dU (.bool b)=.bool b:=rfl
@[go_sem]theorem Wk(k:IntKind)(n:Int):dU (.int k n)=.int k n:=rfl
@[go_sem]theorem Wn(s:List UInt8):dU (.str s)=.str s:=rfl
@[go_sem]theorem UQ:dU (.fO)=.fO:=rfl
@[go_sem]theorem Wm(b o:Nat):dU (.ref b o)=.ref b o:=rfl
@[go_sem]theorem Wl(cs:List AV):dU (.loc cs)=.loc cs:=rfl
@[go_sem]theorem YT(o:Bool)(z n:Nat)(cs:List AV):dU (.sl o z n cs)=.sl o z n cs:=rfl
@[go_sem]theorem Wj(b o l c:Nat):dU (.arr b o l c)=.arr b o l c:=rfl
@[go_sem]theorem YS(f:Nat)(x y:List AV):dU (.fn f x y)=.fn f x y:=rfl
attribute[go_sem] cond.eq_1 cond.eq_2
attribute[go_sem] Tb.eq_1 Tb.eq_2 Tb.eq_3 NQ.eq_1 NQ.eq_2 NQ.eq_3 yU.eq_1 yU.eq_2 yU.eq_3 ki.eq_1 ki.eq_2 ki.eq_3 ki.eq_4 ki.eq_5 ki.eq_6 ki.eq_7 ki.eq_8 ki.eq_9 ki.eq_10 ki.eq_11 ki.eq_12 ki.eq_13 ki.eq_14 ki.eq_15 ki.eq_16 Qf.eq_1 Fk.eq_1 VN.eq_1 VN.eq_2 uw.eq_1 na.eq_1 na.eq_2 uK.eq_1 mE.eq_1 M4.eq_1 abt.eq_1 gR.eq_1 gR.eq_2 gR.eq_3 gR.eq_4 kW.eq_1 kW.eq_2 gD.eq_1 gD.eq_2 gD.eq_3 gD.eq_4 Bq.eq_1 yw.eq_1 tZ.eq_1 tZ.eq_2 Dt.eq_1 mR.eq_1 Ks.eq_1 AK.eq_1 AK.eq_2 AK.eq_3 AK.eq_4 AK.eq_5 uC.eq_1 Ip.eq_1 qk.eq_1 BB.eq_1 I3.eq_1 I3.eq_2 od.eq_1 od.eq_2 nH.eq_1 vi.eq_1 rd.eq_1 rd.eq_2 rd.eq_3 rd.eq_4 mB.eq_1 mB.eq_2 QN.eq_1 xf.eq_1 mT.eq_1 mT.eq_2 A9.eq_1 qj.eq_1 xQ.eq_1 okV.eq_1 okV.eq_2 vY.eq_1 Mv.eq_1 cQ.eq_1 cQ.eq_2 uB.eq_1 vu.eq_1 Oe.eq_1 fS.eq_1 ku.eq_1 YH.eq_1 ZW.eq_1 Mo.eq_1 Rb.eq_1 ac8.eq_1 JC.eq_1 JC.eq_2 JC.eq_3 JM.eq_1 JM.eq_2 J7.eq_1 DV.eq_1 DV.eq_2 DV.eq_3 OJ.eq_1 OJ.eq_2 su.eq_3 su.eq_4 su.eq_5 su.eq_6 su.eq_7 su.eq_12 su.eq_13 su.eq_14 su.eq_15 su.eq_16 su.eq_17 HG.eq_1 HG.eq_2 HG.eq_3 HG.eq_4 HG.eq_5 HG.eq_6 HG.eq_7 kk pv.eq_1 pv.eq_2 pv.eq_3 pv.eq_4 pv.eq_5 pv.eq_6 pv.eq_7 pv.eq_8 pv.eq_9 pv.eq_10 pv.eq_11 pv.eq_12 pv.eq_13 pv.eq_14 pv.eq_15 pv.eq_16 pv.eq_17 pv.eq_18 pv.eq_19 pv.eq_20 pv.eq_21 pv.eq_22 pv.eq_23 pv.eq_24 pv.eq_25 fill.eq_1 fill.eq_2
attribute[go_sem] UG YQ xg St.xJ St.fk Ra jg M5 PK Uz UB Hk Ld St.drain
attribute[go_sem] Bool.true_or Bool.or_true Bool.or_false Bool.false_or
attribute[go_sem] bne_self_eq_false Bool.bne_true Bool.bne_false implies_true decide_true decide_false Bool.true_and Bool.and_true Bool.false_and Bool.and_false Bool.not_true Bool.not_false Bool.false_eq_true true_and List.length_cons List.length_nil List.map_cons List.map_nil List.all_nil List.all_cons List.drop_zero List.drop_succ_cons List.take_zero List.take_succ_cons Nat.zero_add List.cons_append List.nil_append List.getElem?_cons_zero List.getElem?_cons_succ
end
def VR.mono{w w':World}{R R':Nat->Nat}(hR:∀b,R b<=R' b)(hs:∀b k,k<R b->w'.cell? ⟨b,k,none⟩=w.cell? ⟨b,k,none⟩){a:AV}{v:Value}(h:VR w R a v):VR w' R' a v:=by
 induction h with
 |undef v=>exact .undef v
 |bool b=>exact .bool b
 |int k n=>exact .int k n
 |str s=>exact .str s
 |fO=>exact .fO
 |ref b off=>exact .ref b off
 |sp cs b off u hf hR' hc _ ih=>
  refine .sp cs b off u hf (Nat.le_trans hR' (hR b)) (fun j c hj=>?_) ih
  grind
 |slnil own sz=>exact .slnil own sz
 |sle sz a cap=>exact .sle sz a cap
 |sl own sz n cs b off cap u hf hl hR' gv hc _ ih=>
  refine .sl own sz n cs b off cap u hf hl (Nat.le_trans hR' (hR b)) gv (fun j c hj=>?_) ih
  grind
 |arr b off len cap=>exact .arr b off len cap
 |FX b off=>exact .FX b off
 |agg cs vs hf hl _ ih=>exact .agg cs vs hf hl ih
 |jV cs vs hl _ ih=>exact .jV cs vs hl ih
 |fn f first jv vf vc hl _ hl' _ ih ih'=>exact .fn f first jv vf vc hl ih hl' ih'
 |p8=>exact .p8
 |mp b=>exact .mp b
 |one v h=>exact .one v h
 |oo t=>exact .oo t
 |l9=>exact .l9
 |bb t n cs v _ h0 ih=>exact .bb t n cs v ih h0
 |tH=>exact .tH
 |when b a v _ ih=>exact .when b a v ih
theorem aR.R{G G':Gh}{w w':World}(h:aR G w G' w')(hg:cS G w):∀b,G.R b<=G'.R b:=fun b=>by
 rcases Nat.lt_or_ge b w.heap.size with hb|hb
 ·exact h.mono b hb
 ·rw[hg.nc b hb];grind
theorem aR.cells{G G':Gh}{w w':World}(h:aR G w G' w')(hg:cS G w):∀b k,k<G.R b->w'.cell? ⟨b,k,none⟩=w.cell? ⟨b,k,none⟩:=fun b k hk=>by
 rcases Nat.lt_or_ge b w.heap.size with hb|hb
 ·exact h.nz b k hb hk
 ·rw[hg.nc b hb]at hk;omega
def aR.vr{G G':Gh}{w w':World}(h:aR G w G' w')(hg:cS G w){a:AV}{v:Value}(hv:VR w G.R a v):VR w' G'.R a v:=hv.mono (h.R hg) (h.cells hg)
theorem aR.refl(G:Gh)(w:World):aR G w G w:=⟨rfl,rfl,rfl,Nat.le_refl _,Nat.le_refl _,fun _ _=>Nat.le_refl _,fun _ _ _ _=>rfl,fun _ _ _=>rfl,fun _ _ h=>⟨h,rfl⟩,fun _ _ h=>⟨h,rfl⟩⟩
def aR.trans{G₁ G₂ G₃:Gh}{w₁ w₂ w₃:World}(h:aR G₁ w₁ G₂ w₂)(k:aR G₂ w₂ G₃ w₃):aR G₁ w₁ G₃ w₃ where
 os:=k.os.trans h.os
 tape:=k.tape.trans h.tape
 output:=k.output.trans h.output
 drawn:=Nat.le_trans h.drawn k.drawn
 size:=Nat.le_trans h.size k.size
 mono:=fun b hb=>Nat.le_trans (h.mono b hb) (k.mono b (Nat.lt_of_lt_of_le hb h.size))
 nz:=fun b j hb hj=>(k.nz b j (Nat.lt_of_lt_of_le hb h.size) (Nat.lt_of_lt_of_le hj (h.mono b hb))).trans (h.nz b j hb hj)
 frame:=fun b hb ho=>by
  refine(k.frame b (Nat.lt_of_lt_of_le hb h.size) ?_).trans (h.frame b hb ho)
  rcases ho with ho|ho
  ·exact .inl (h.kq b hb ho).1
  ·exact .inr (h.qI b hb ho).1
 kq:=fun b hb ho=>
  let⟨o2,r2⟩:=h.kq b hb ho
  let⟨o3,r3⟩:=k.kq b (Nat.lt_of_lt_of_le hb h.size) o2
  ⟨o3,r3.trans r2⟩
 qI:=fun b hb ho=>
  let⟨o2,r2⟩:=h.qI b hb ho
  let⟨o3,r3⟩:=k.qI b (Nat.lt_of_lt_of_le hb h.size) o2
  ⟨o3,r3.trans r2⟩
def ew.mono{G G':Gh}{w w':World}{o:dp}{a:AV}{v:Value}(h:ew G w o a v)(hb:∀b,G.O b=o->G'.O b=o/\G'.R b=G.R b/\w'.heap[b]? =w.heap[b]?):ew G' w' o a v:=by
 unfold ew at*
 split
 ·grind
 ·grind
 ·trivial
theorem Fl.views{cs:List AV}(h:Fl cs):Fl (views cs):=by
 intro c hc
 simp only[AB.views,List.mem_map]at hc
 obtain⟨c',h1,rfl⟩:=hc
 have:=h c' h1
 cases c'<;>simp_all [ql,ee,AB.view]
theorem Ex.views{t:Nat}{cs:List AV}(h:Ex t cs):Fl (AB.views cs):=by
 intro c hc
 simp only[AB.views,List.mem_map]at hc
 obtain⟨c',h1,rfl⟩:=hc
 rcases h c' h1 with h|rfl
 ·cases c'<;>simp_all [ql,ee,AB.view]
 ·rfl
theorem Ex.flat{t:Nat}{cs:List AV}(h:Ex t cs)(hv:AB.views cs=cs):Fl cs:=hv▸h.views
def Ex.left{t:Nat}{cs sp:List AV}(h:Ex t (cs++sp)):Ex t cs:=fun c hc=>h c (List.mem_append_left _ hc)
def Fl.tag{cs:List AV}(h:Fl cs)(t:Nat):Ex t cs:=fun c hc=>.inl (h c hc)
theorem Fl.sub{cs:List AV}(h:Fl cs)(off n:Nat):Fl (sub cs off n):=fun c hc=>h c (List.mem_of_mem_drop (List.mem_of_mem_take hc))
theorem Fl.drop{cs:List AV}(h:Fl cs)(off:Nat):Fl (cs.drop off):=fun c hc=>h c (List.mem_of_mem_drop hc)
def Fl.nil:Fl []:=fun c hc=>L_
theorem ew.view(G:Gh)(w:World)(o:dp)(a:AV)(v:Value):ew G w o (view a) v:=by cases a<;>first|trivial|(rename_i own sz n cs;simp[AB.view,ew])
theorem VR.view{w:World}{R:Nat->Nat}{a:AV}{v:Value}(h:VR w R a v):VR w R (view a) v:=by
 cases h with
 |slnil own sz=>exact .slnil false sz
 |sle sz a cap=>exact .sle sz a cap
 |sl own sz n cs b off cap u hf hl hR gv hc hr=>exact .sl false sz n cs b off cap u hf hl hR gv hc hr
 |undef v=>exact .undef v
 |bool b=>exact .bool b
 |int k n=>exact .int k n
 |str s=>exact .str s
 |fO=>exact .fO
 |ref b off=>exact .ref b off
 |sp cs b off u hf hR hc hr=>exact .sp cs b off u hf hR hc hr
 |arr b off len cap=>exact .arr b off len cap
 |FX b off=>exact .FX b off
 |agg cs vs hf hl hr=>exact .agg cs vs hf hl hr
 |jV cs vs hl hr=>exact .jV cs vs hl hr
 |fn f first jv vf vc hl hr hl' hr'=>exact .fn f first jv vf vc hl hr hl' hr'
 |p8=>exact .p8
 |mp b=>exact .mp b
 |one v h=>exact .one v h
 |oo t=>exact .fO
 |l9=>exact .l9
 |bb t n cs v h h0=>
  cases h with
  |slnil=>exact .slnil false 1
  |sl _ _ _ _ b off cap u hf hl hR gv hc hr=>exact .sl false 1 n cs b off cap u hf hl hR gv hc hr
 |tH=>exact .tH
 |when b a v h=>exact .when b a v h
def dS.mono{G G':Gh}{w w':World}{o:Nat->dp}{cs:List AV}{c:Array Value}(h:dS G w o cs c)(hv:∀a v,VR w G.R a v->VR w' G'.R a v)
 (hb:∀b j,G.O b=o j->G'.O b=o j/\G'.R b=G.R b/\w'.heap[b]? =w.heap[b]?):dS G' w' o cs c:=
 ⟨h.1,fun j x y hx hy=>⟨hv _ _ (h.2 j x y hx hy).1,(h.2 j x y hx hy).2.mono fun b=>hb b j⟩⟩
theorem dT.rT{G:Gh}{w:World}{e:List (Nat×AV)}{tmps:Array Value}{i:Nat}{a:AV}{v:Value}(h:ee a=true):dT G w e tmps i a v↔(VR w G.R a v/\ew G w (.slot i 0) a v):=by cases a<;>simp_all [ee,dT]
theorem dT.xS{G:Gh}{w:World}{e:List (Nat×AV)}{tmps:Array Value}{i:Nat}{a:AV}{v:Value}(h:ee a=true)(hv:VR w G.R a v):dT G w e tmps i (view a) v:=by
 have h':ee (view a)=true:=by cases a<;>simp_all [ee,view]
 rw[dT.rT h']
 exact⟨hv.view,ew.view ..⟩
theorem dT.frame{G G':Gh}{w w':World}{e e':List (Nat×AV)}{tmps Mm:Array Value}{i:Nat}
 (hv:∀a v,VR w G.R a v->VR w' G'.R a v)
 (wo:∀b,(∃j,G.O b=.slot i j)\/G.O b=.loc i->G'.O b=G.O b/\G'.R b=G.R b/\w'.heap[b]? =w.heap[b]?)
 (gl:∀b c j,G.O b=.loc i->G.O c=.cell b j->G'.O c=.cell b j/\G'.R c=G.R c/\w'.heap[c]? =w.heap[c]?):
 ∀(a:AV)(v:Value)(_:∀d,bS a d->∀cs,look e' d=.loc cs->∃cs',look e d=.loc cs'/\Mm[d]? =tmps[d]?)
  (_:dT G w e tmps i a v),dT G' w' e' Mm i a v
 |.loc cs,v,_,h=>by
  obtain⟨b,c,t,h1,h2,h3,h4,h5,h6⟩:=h
  obtain⟨k1,k2,k3⟩:=wo b (.inr h2)
  exact⟨b,c,t,h1,k1.trans h2,k2.trans h3,k3.trans h4,h5.mono hv fun c j hc=>gl b c j h2 hc,h6⟩
 |.lp d off,v,hlp,h=>by
  obtain⟨b,h3,h4⟩:=h
  refine⟨b,h3,fun cs hcs=>?_⟩
  obtain⟨cs',h1,h2⟩:=hlp d rfl cs hcs
  grind
 |.jV vs,v,_,h=>by
  obtain⟨ys,h1,h2⟩:=h
  exact⟨ys,h1,h2.mono hv fun b j hb=>A_⟩
 |.when b a,v,hlp,h=>⟨fun hb=>dT.frame hv wo gl a v hlp (h.1 hb),h.2⟩
 |.us sz n cs,v,_,h=>by
  rcases h with h|⟨b,cap,c,t,sp,h1,h2,h3,h4,h5,h6,h7,h8,h9,h10,h11⟩
  ·exact .inl h
  ·obtain⟨k1,k2,k3⟩:=wo b (.inl ⟨_,h4⟩)
   exact .inr ⟨b,cap,c,t,sp,h1,h2,h3,k1.trans h4,k2.trans h5,k3.trans h6,h7,h8,h9,fun j x u hx hu=>hv _ _ (h10 j x u hx hu),h11⟩
 |.undef,v,_,h|.bool _,v,_,h|.int _ _,v,_,h|.str _,v,_,h|.fO,v,_,h|.ref _ _,v,_,h|.sp _,v,_,h|.sl _ _ _ _,v,_,h|.arr _ _ _ _,v,_,h|.agg _,v,_,h
 |.fn _ _ _,v,_,h|.p8,v,_,h|.mp _,v,_,h|.tH,v,_,h|.one,v,_,h|.oo _,v,_,h|.l9,v,_,h|.bb _ _ _,v,_,h=>by
  refine⟨hv _ _ h.1,h.2.mono fun b hb=>?_⟩
  grind
theorem bA(j i:Nat)(a:AV)(l:List (Nat×AV)):look ((j,a)::l) i=if j=i then a else look l i:=by grind [look]
theorem Inv.put{G G':Gh}{n:Nat}{D:List Deferred}{σ:St}{s':ae}{lp':List (Nat×Nat)}{a:Act}{w w':World}(h:Inv G n D σ a w)(d:Option Nat)(hd:∀i,d=some i->i<n)(av:AV)(v:Value)
 (m7:cS G' w')(cM:aR G w G' w')(dQ:bB G' w' s')
 (hlp:∀x∈σ.lp,x∈lp')(aaL:∀i t,d=some i->bS av t->(i,t)∈lp')
 (UZ:∀i t,d=some i->(∃cs,av=.loc cs)->(t,i)∉σ.lp)
 (wo:∀i b,d≠some i->(∃j,G.O b=.slot i j)\/G.O b=.loc i->G'.O b=G.O b/\G'.R b=G.R b/\w'.heap[b]? =w.heap[b]?)
 (gl:∀i b c j,d≠some i->G.O b=.loc i->G.O c=.cell b j->G'.O c=.cell b j/\G'.R c=G.R c/\w'.heap[c]? =w.heap[c]?)
 (Pb:∀i,d=some i->dT G' w' ((σ.put d av).e) (a.put d v).tmps i av v):
 Inv G' n D {(σ.put d av)with s:=s',lp:=lp'} (a.put d v) w':=by
 cases d with
 |none=>
  refine⟨m7,dQ,h.size,fun i u hu=>?_,h.EH,fun i t ht=>hlp _ (h.Kx i t ht),h.ry⟩
  exact dT.frame (fun _ _ hv=>cM.vr h.bF hv) (fun b=>wo i b B_) (fun b c j=>gl i b c j B_) _ _ (fun t _ cs hcs=>⟨cs,hcs,rfl⟩) (h.da i u hu)
 |some d=>
  refine⟨m7,dQ,by simp[Act.put,h.size],fun i u hu=>?_,fun i hi=>?_,fun i t ht=>?_,h.ry⟩
  ·by_cases hid:d=i
   ·subst hid
    have hu':u=v:=by
     have hlt:d<a.tmps.size:=by rw[h.size];exact hd d rfl
     simp[Act.put,hlt]at hu
     exact hu.symm
    subst hu'
    have:look (σ.put (some d) av).e d=av:=p_
    grind
   ·have hne:(some d:Option Nat)≠some i:=fun e=>hid (Option.some.inj e)
    have hu':a.tmps[i]? =some u:=by simpa[Act.put,Array.getElem?_setIfInBounds_ne hid]using hu
    have:look (σ.put (some d) av).e i=look σ.e i:=by simp[St.put,bA,hid]
    show dT G' w' (σ.put (some d) av).e _ i (look (σ.put (some d) av).e i) u
    rw[this]
    refine dT.frame (fun _ _ hv=>cM.vr h.bF hv) (fun b=>wo i b hne) (fun b c j=>gl i b c j hne) _ _ (fun t ht cs hcs=>?_) (h.da i u hu')
    have Si:=h.Kx i t ht
    by_cases hdt:d=t
    ·subst hdt
     simp only[St.put,bA,if_true]at hcs
     grind
    grind [St.put,bA,Act.put,Array.getElem?_setIfInBounds_ne]
  ·have:d≠i:=by have:=hd d rfl;omega
   simp[St.put,bA,this,h.EH i hi]
  ·by_cases hid:d=i
   ·subst hid
    simp only[St.put,bA,if_true]at ht
    grind
   ·simp only[St.put,bA,hid,if_false]at ht
    exact hlp _ (h.Kx i t ht)
end Go.AB
end
