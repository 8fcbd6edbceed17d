/- A part. -/
import Derived.KernelRfl
import Derived.Orders
import Derived.Laws.Sem
set_option linter.defProp false
set_option linter.unusedSimpArgs false
set_option linter.unusedVariables false
section
namespace Go.AB
open Go
section
variable{P:Prop}
theorem AT(h:P:=by omega):P:=h
theorem A_(h:P:=by grind):P:=h
theorem BY(h:P:=by simp):P:=h
theorem By(h:P:=by decide):P:=h
theorem B_(h:P:=by kernel_rfl):P:=h
theorem C3(h:P:=by simp;omega):P:=h
theorem C_(h:P:=by simp -implicitDefEqProofs only[go_sem,seval]<;>simp only[ao]):P:=h
theorem DO(h:P:=by simp -implicitDefEqProofs only[go_sem,seval,ai ab,ai ab.symm,set_comm ab]<;>simp only[ao]):P:=h
theorem D_(h:P:=by rfl):P:=h
theorem E_(h:P:=by rw[an (by omega) (by omega)];omega):P:=h
theorem F_(h:P:=by cases h):P:=h
theorem Gq(h:P:=by first|rfl|simp):P:=h
theorem G_(h:P:=by simpa using he):P:=h
theorem H_(h:P:=by simp_all):P:=h
theorem IF(h:P:=by cases d<;>rfl):P:=h
theorem IN(h:P:=by grind [bt]):P:=h
theorem I_(h:P:=by assumption):P:=h
theorem J_(h:P:=by simpa using hc):P:=h
theorem KT(h:P:=by simpa using h):P:=h
theorem KW(h:P:=by rw[hl];omega):P:=h
theorem K_(h:P:=by simp at hj):P:=h
theorem L_(h:P:=by rw[q2];simp):P:=h
theorem M_(h:P:=by simpa using h0):P:=h
theorem Nl(h:P:=by simpa using hx):P:=h
theorem N_(h:P:=by rw[List.length_take];omega):P:=h
theorem O_(h:P:=by simp at hc):P:=h
theorem Pc(h:P:=by cases hcs):P:=h
theorem P_(h:P:=by rw[List.length_drop];omega):P:=h
theorem QD(h:P:=by simp[eW]):P:=h
theorem Q_(h:P:=by simp -implicitDefEqProofs only[go_sem,seval]):P:=h
theorem R_(h:P:=by repeat'(first|exact Sub.refl _|refine Sub.set ?_ ?_|assumption|(simp[ae.set, *];done))):P:=h
theorem S_(h:P:=by simpa using h1):P:=h
theorem TM(h:P:=by cases h;rfl):P:=h
theorem TN(h:P:=by simp[r1]):P:=h
theorem T_(h:P:=by simp at hx):P:=h
theorem U_(h:P:=by simpa using h2):P:=h
theorem V_(h:P:=by rw[eJ];rfl):P:=h
theorem W_(h:P:=by first|exact A1 _ _ _ _ _|exact yJ _ _ _ _|exact yK _ _ _):P:=h
theorem Xr(h:P:=by simp at hc;omega):P:=h
theorem X_(h:P:=by rw[hb];simp):P:=h
theorem Y_(h:P:=by simp[eW,hy]):P:=h
theorem Z_(h:P:=by simp[St.put,bj]):P:=h
theorem aT(h:P:=by subst hk;simp[execOp,e1,e2,eqGuard,binOp,Op.intCmp]):P:=h
theorem bY(h:P:=by simp[views]):P:=h
theorem c_(h:P:=by simp[G',hb']):P:=h
theorem d_(h:P:=by simp[Builtin.firstCells]):P:=h
theorem f_(h:P:=by cases e):P:=h
theorem g_(h:P:=by simpa using hlt):P:=h
theorem h_(h:P:=by rw[an (by omega) (by omega)];rfl):P:=h
theorem iF(h:P:=by unfold fJ;simp;omega):P:=h
theorem iN(h:P:=by unfold room;omega):P:=h
theorem i_(h:P:=by rw[hsz];decide):P:=h
theorem j_(h:P:=by obtain⟨_,_,_,hf⟩:=hat;exact hf):P:=h
theorem k_(h:P:=by simpa using eP.qi):P:=h
theorem l4(h:P:=by grind [ae.set]):P:=h
theorem o_(h:P:=by cases hx):P:=h
theorem p_(h:P:=by simpa using hne):P:=h
theorem q_(h:P:=by rw[fq];rfl):P:=h
theorem r_(h:P:=by rw[Nat.zero_add];exact hr):P:=h
theorem s7(h:P:=by rw[h7];exact bp):P:=h
theorem s_(h:P:=by rw[h7,jV h2];exact Sub.refl s):P:=h
theorem t_(h:P:=by rw[h2];exact Sub.refl s):P:=h
theorem u_(h:P:=by decide+kernel):P:=h
theorem w_(h:P:=by simp[he]):P:=h
theorem x_(h:P:=by simp[ix]):P:=h
theorem y_(h:P:=by cases b<;>rfl):P:=h
theorem z_(h:P:=by subst hk;simp[execOp,e1,e2,eqGuard,binOp,Op.intBits]):P:=h
theorem Ω(h:P:=by cases d<;>exact h1):P:=h
theorem Ψ(h:P:=by cases v<;>rfl):P:=h
theorem Φ(h:P:=by rw[hlen,q5.1];exact dn):P:=h
theorem Ξ(h:P:=by rw[<-KL];exact vW):P:=h
theorem Δ(h:P:=by simp[execOp,e1,Instr.storeAt,Instr.sureAddr,bS]):P:=h
theorem Θ(h:P:=by simpa[World.setRow]using hb'):P:=h
theorem Γ(h:P:=by have:=(List.getElem?_eq_some_iff.1 hj).1;omega):P:=h
theorem ψ(h:P:=by cases d<;>simp[BE]):P:=h
theorem ξ(h:P:=by simpa using eP.len):P:=h
theorem θ(h:P:=by grind [laid]):P:=h
theorem ζ(h:P:=by rw[u1,hcl]):P:=h
theorem η(h:P:=by rw[hc];simp):P:=h
theorem υ(h:P:=by rw[u1,hlen]):P:=h
theorem χ(h:P:=by rw[hl];rfl):P:=h
theorem ω(h:P:=by unfold flat;simp):P:=h
theorem Xa0(h:P:=by rw[hσ];exact bp):P:=h
theorem Xa1(h:P:=by unfold yi;simp only[h]):P:=h
theorem Xa2(h:P:=by rw[k4];omega):P:=h
theorem Xa3(h:P:=by rw[hl5];omega):P:=h
theorem Xa4(h:P:=by simpa using hx2):P:=h
theorem Xa5(h:P:=by rw[List.length_take,List.length_drop];omega):P:=h
theorem Xa6(h:P:=by simp[ae.set,sN1]):P:=h
theorem Xa7(h:P:=by simpa using hk):P:=h
theorem Xa8(h:P:=by rw[<-hQ];exact⟨s2,h1,h2⟩):P:=h
theorem Xa9(h:P:=by rw[fq,Nat.zero_add];rfl):P:=h
theorem Xb0(h:P:=by rw[fl];omega):P:=h
theorem Xb1(h:P:=by simpa using htm):P:=h
theorem Xb2(h:P:=by rw[hle];omega):P:=h
theorem Xb3(h:P:=by cases z<;>exact hz2):P:=h
theorem Xb4(h:P:=by simp at h;omega):P:=h
theorem Xb5(h:P:=by show dD ⟨_,b,aC ((j:Int)+1),_⟩ c=_;rw[hw];exact yk):P:=h
theorem Xb6(h:P:=by cases h:Ak x<;>simp_all):P:=h
theorem Xb7(h:P:=by simpa using h6):P:=h
theorem Xb8(h:P:=by simpa using hl):P:=h
theorem Xb9(h:P:=by simpa using hv):P:=h
theorem Xc0(h:P:=by subst hk;simp[execOp,e1,e2,eqGuard,binOp,Op.intArith,j6]):P:=h
theorem Xc1(h:P:=by simp[Op.equalIn,run_underlying htu]):P:=h
theorem Xc2(h:P:=by cases ne<;>exact .bool _):P:=h
theorem Xc3(h:P:=by rw[h.size];exact hin):P:=h
theorem Xc4(h:P:=by cases d<;>exact this):P:=h
theorem Xc5(h:P:=by rw[hg];exact List.mem_cons_self):P:=h
theorem Xc6(h:P:=by rw[hg.size];exact r1):P:=h
theorem Xc7(h:P:=by rw[hs];exact hf):P:=h
theorem Xc8(h:P:=by rw[<-hL];simp;omega):P:=h
theorem Xc9(h:P:=by rw[<-hAB];simp):P:=h
theorem Xd0(h:P:=by have:=of_decide_eq_true hx;omega):P:=h
theorem Xd1(h:P:=by have:=of_decide_eq_false hx;omega):P:=h
theorem Xd2(h:P:=by first|(simp -implicitDefEqProofs only[go_sem,seval,hgG0];done)|(simp -implicitDefEqProofs only[go_sem,seval,hgG1];done)|(simp -implicitDefEqProofs only[go_sem,seval,hgG2];done)|(simp -implicitDefEqProofs only[go_sem,seval];done)):P:=h
theorem Xd3(h:P:=by rw[hbd,hdv];rfl):P:=h
theorem Xd4(h:P:=by have:=eq_of_beq h;omega):P:=h
theorem Xd5(h:P:=by rw[List.drop_eq_nil_iff];simp;omega):P:=h
theorem Xd6(h:P:=by rw[ai hne.symm];exact h1):P:=h
theorem Xd7(h:P:=by rw[gr hk];exact List.getElem_mem _):P:=h
theorem Xd8(h:P:=by rw[h2.2.2.2.2.1,hto]):P:=h
theorem Xd9(h:P:=by unfold lF;rw[if_neg (by omega)]):P:=h
theorem Xe0(h:P:=by unfold RE;grind):P:=h
theorem Xe1(h:P:=by refine pB ?_ ((iW kK h:));simp -implicitDefEqProofs only[go_sem,seval,BX,BZ]):P:=h
variable{Q:Prop}
theorem Xe2(h:Q)(i:Q->P:=by intro h;simp -implicitDefEqProofs only[go_sem,seval];exact h):P:=i h
theorem Xe3{A:Prop}(a:A)(h:Q)(i:A->Q->P:=by intro a h;simp -implicitDefEqProofs only[go_sem,seval,bL,a];exact h):P:=i a h
theorem Xe4{A B C D E F G:Prop}(a:A)(b:B)(c:C)(d:D)(e:E)(f:F)(g:G)(h:Q)(i:A->B->C->D->E->F->G->Q->P:=by intro a b c d e f g h;simp -implicitDefEqProofs only[go_sem,seval,bL,a,b,c,d,e,f,g];exact h):P:=i a b c d e f g h
theorem Xe5(h:Q)(i:Q->P:=by intro h;simp -implicitDefEqProofs only[go_sem,seval,bL];exact h):P:=i h
theorem Xe6{A B C D E F:Prop}(a:A)(b:B)(c:C)(d:D)(e:E)(f:F)(h:Q)(i:A->B->C->D->E->F->Q->P:=by intro a b c d e f h;simp -implicitDefEqProofs only[go_sem,seval,bL,a,b,c,d,e,f];exact h):P:=i a b c d e f h
theorem Xe7{A B C D E F G H I:Prop}(a:A)(b:B)(c:C)(d:D)(e:E)(f:F)(g:G)(k:H)(l:I)(h:Q)(i:A->B->C->D->E->F->G->H->I->Q->P:=by intro a b c d e f g k l h;simp -implicitDefEqProofs only[go_sem,seval,bL,a,b,c,d,e,f,g,k,l];exact h):P:=i a b c d e f g k l h
theorem Xe8{A B:Prop}(a:A)(b:B)(h:Q)(i:A->B->Q->P:=by intro a b h;simp -implicitDefEqProofs only[go_sem,seval,a,b];exact h):P:=i a b h
theorem Xe9{A B:Prop}(a:A)(b:B)(h:Q)(i:A->B->Q->P:=by intro a b h;simp -implicitDefEqProofs only[go_sem,seval,bL,a,b];exact h):P:=i a b h
theorem Xf0{A B C D E F G H:Prop}(a:A)(b:B)(c:C)(d:D)(e:E)(f:F)(g:G)(k:H)(h:Q)(i:A->B->C->D->E->F->G->H->Q->P:=by intro a b c d e f g k h;simp -implicitDefEqProofs only[go_sem,seval,bL,a,b,c,d,e,f,g,k];exact h):P:=i a b c d e f g k h
theorem Xf1{A B C:Prop}(a:A)(b:B)(c:C)(h:Q)(i:A->B->C->Q->P:=by intro a b c h;simp -implicitDefEqProofs only[go_sem,seval,bL,a,b,c];exact h):P:=i a b c h
theorem Xf2{A:Prop}(a:A)(h:Q)(i:A->Q->P:=by intro a h;simp -implicitDefEqProofs only[go_sem,Nat.reduceBEq,Nat.reduceAdd,Nat.reduceMul,Nat.reduceLeDiff,Nat.reduceEqDiff,Nat.reduceBNe,UInt8.reduceToNat,UInt32.reduceToNat,a];exact h):P:=i a h
theorem Xf3{A B:Prop}(a:A)(b:B)(h:Q)(i:A->B->Q->P:=by intro a b h;simp -implicitDefEqProofs only[go_sem,Nat.reduceBEq,Nat.reduceAdd,Nat.reduceMul,Nat.reduceLeDiff,Nat.reduceEqDiff,Nat.reduceBNe,UInt8.reduceToNat,UInt32.reduceToNat,set_set,a,b];exact h):P:=i a b h
theorem Xf4(h:Q)(i:Q->P:=by intro h;simp -implicitDefEqProofs only[go_sem,Nat.reduceBEq,Nat.reduceAdd,Nat.reduceMul,Nat.reduceLeDiff,Nat.reduceEqDiff,Nat.reduceBNe,UInt8.reduceToNat,UInt32.reduceToNat];exact h):P:=i h
theorem Xf5{A:Prop}(a:A)(h:Q)(i:A->Q->P:=by intro a h;simp -implicitDefEqProofs only[go_sem,Nat.reduceBEq,Nat.reduceAdd,Nat.reduceMul,Nat.reduceLeDiff,Nat.reduceEqDiff,Nat.reduceBNe,UInt8.reduceToNat,UInt32.reduceToNat,set_set,a];exact h):P:=i a h
theorem Xf6(i:P:=by simp -implicitDefEqProofs only[go_sem,seval]):P:=i 
theorem Xf7(h:Q)(i:Q->P:=by intro h;(conv in dec _=>reduce);exact h):P:=i h
theorem Xf8{A B C D:Prop}(a:A)(b:B)(c:C)(d:D)(h:Q)(i:A->B->C->D->Q->P:=by intro a b c d h;simp -implicitDefEqProofs only[go_sem,Nat.reduceBEq,Nat.reduceAdd,Nat.reduceMul,Nat.reduceLeDiff,Nat.reduceEqDiff,Nat.reduceBNe,UInt8.reduceToNat,UInt32.reduceToNat,bL,a,b,c,d];exact h):P:=i a b c d h
theorem Xf9{A B C D E:Prop}(a:A)(b:B)(c:C)(d:D)(e:E)(h:Q)(i:A->B->C->D->E->Q->P:=by intro a b c d e h;simp -implicitDefEqProofs only[go_sem,seval,bL,a,b,c,d,e];exact h):P:=i a b c d e h
theorem Xg0{A:Prop}(a:A)(h:Q)(i:A->Q->P:=by intro a h;simp -implicitDefEqProofs only[go_sem,seval,a];exact h):P:=i a h
theorem Xg1{A B C:Prop}(a:A)(b:B)(c:C)(h:Q)(i:A->B->C->Q->P:=by intro a b c h;simp -implicitDefEqProofs only[go_sem,seval,bL,Bool.true_or,Bool.or_true,Bool.or_false,a,b,c];exact h):P:=i a b c h
theorem Xg2{A B C D E:Prop}(a:A)(b:B)(c:C)(d:D)(e:E)(h:Q)(i:A->B->C->D->E->Q->P:=by intro a b c d e h;simp -implicitDefEqProofs only[go_sem,seval,bL,Bool.true_or,Bool.or_true,Bool.or_false,a,b,c,d,e];exact h):P:=i a b c d e h
theorem Xg3{A B:Prop}(a:A)(b:B)(h:Q)(i:A->B->Q->P:=by intro a b h;simp -implicitDefEqProofs only[go_sem,seval,bL,Bool.true_or,Bool.or_true,Bool.or_false,a,b];exact h):P:=i a b h
theorem Xg4{A:Prop}(a:A)(h:Q)(i:A->Q->P:=by intro a h;simp -implicitDefEqProofs only[go_sem,Nat.reduceBEq,Nat.reduceAdd,Nat.reduceMul,Nat.reduceLeDiff,Nat.reduceEqDiff,Nat.reduceBNe,UInt8.reduceToNat,UInt32.reduceToNat,bL,a];exact h):P:=i a h
theorem Xg5{A B C D:Prop}(a:A)(b:B)(c:C)(d:D)(h:Q)(i:A->B->C->D->Q->P:=by intro a b c d h;simp -implicitDefEqProofs only[go_sem,seval,a,b,c,d];exact h):P:=i a b c d h
theorem Xg6{A B C:Prop}(a:A)(b:B)(c:C)(h:Q)(i:A->B->C->Q->P:=by intro a b c h;simp -implicitDefEqProofs only[go_sem,seval,a,b,c];exact h):P:=i a b c h
theorem Xg7{A B C D:Prop}(a:A)(b:B)(c:C)(d:D)(h:Q)(i:A->B->C->D->Q->P:=by intro a b c d h;simp -implicitDefEqProofs only[go_sem,seval,bL,a,b,c,d];exact h):P:=i a b c d h
theorem Xg8(h:Q)(i:Q->P:=by intro h;simp -implicitDefEqProofs only[go_sem,Nat.reduceBEq,Nat.reduceAdd,Nat.reduceMul,Nat.reduceLeDiff,Nat.reduceEqDiff,Nat.reduceBNe,UInt8.reduceToNat,UInt32.reduceToNat,bL];exact h):P:=i h
theorem Xg9{A:Prop}(a:A)(h:Q)(i:A->Q->P:=by intro a h;simp -implicitDefEqProofs only[go_sem,seval,set_set,bL,a];exact h):P:=i a h
theorem Xh0{A B:Prop}(a:A)(b:B)(h:Q)(i:A->B->Q->P:=by intro a b h;simp -implicitDefEqProofs only[go_sem,seval,Bool.or_true,bL,a,b];exact h):P:=i a b h
theorem Xh1{A B C:Prop}(a:A)(b:B)(c:C)(h:Q)(i:A->B->C->Q->P:=by intro a b c h;simp -implicitDefEqProofs only[go_sem,Nat.reduceBEq,Nat.reduceAdd,Nat.reduceMul,Nat.reduceLeDiff,Nat.reduceEqDiff,Nat.reduceBNe,UInt8.reduceToNat,UInt32.reduceToNat,bL,a,b,c];exact h):P:=i a b c h
theorem Xh2{A B:Prop}(a:A)(b:B)(h:Q)(i:A->B->Q->P:=by intro a b h;simp -implicitDefEqProofs only[go_sem,Nat.reduceBEq,Nat.reduceAdd,Nat.reduceMul,Nat.reduceLeDiff,Nat.reduceEqDiff,Nat.reduceBNe,UInt8.reduceToNat,UInt32.reduceToNat,bL,a,b];exact h):P:=i a b h
theorem Xh3{A B C D E F G H:Prop}(a:A)(b:B)(c:C)(d:D)(e:E)(f:F)(g:G)(k:H)(h:Q)(i:A->B->C->D->E->F->G->H->Q->P:=by intro a b c d e f g k h;simp -implicitDefEqProofs only[go_sem,Nat.reduceBEq,Nat.reduceAdd,Nat.reduceMul,Nat.reduceLeDiff,Nat.reduceEqDiff,Nat.reduceBNe,UInt8.reduceToNat,UInt32.reduceToNat,bL,a,b,c,d,e,f,g,k];exact h):P:=i a b c d e f g k h
theorem Xh4(h:Q)(i:Q->P:=by intro h;simp -implicitDefEqProofs only[go_sem];exact h):P:=i h
theorem Xh5{A:Prop}(a:A)(h:Q)(i:A->Q->P:=by intro a h;simp -implicitDefEqProofs only[go_sem,seval,set_set,a];exact h):P:=i a h
theorem Xh6{A B:Prop}(a:A)(b:B)(h:Q)(i:A->B->Q->P:=by intro a b h;simp -implicitDefEqProofs only[go_sem,Nat.reduceBEq,Nat.reduceAdd,Nat.reduceMul,Nat.reduceLeDiff,Nat.reduceEqDiff,Nat.reduceBNe,UInt8.reduceToNat,UInt32.reduceToNat,a,b];exact h):P:=i a b h
end
inductive AV where
 |undef
 |bool (b:Bool)
 |int (k:IntKind) (n:Int)
 |str (s:List UInt8)
 |fN
 |ref (b off:Nat)
 |lp (d off:Nat)
 |sp (cs:List AV)
 |loc (cs:List AV)
 |sl (own:Bool) (sz n:Nat) (cs:List AV)
 |arr (b off len cap:Nat)
 |agg (cs:List AV)
 |jg (vs:List AV)
 |fn (f:Nat) (first fF:List AV)
 |py
 |mp (b:Nat)
 |ud
 |when (b:Bool) (a:AV)
 |us (sz n:Nat) (cs:List AV)
 |one
 |oy (t:Nat)
 |ml
 |bb (t n:Nat) (cs:List AV)
 deriving Inhabited
inductive SO where
 |cells (cs:List AV)
 |map (es:List (AV×AV))
 deriving Inhabited
abbrev ae:=Nat->Option SO
def ae.set(s:ae)(b:Nat)(o:SO):ae:=fun i=>if i=b then some o else s i
def ae.del(s:ae)(b:Nat):ae:=fun i=>if i=b then none else s i
inductive ny where
 |int (k:IntKind)
 |str
 |bool
 |bytes (n:Nat)
 deriving Inhabited
inductive IX where
 |t (i:Nat)
 |c (a:AV)
 deriving Inhabited
inductive sD where
 |oU (tr:Bool) (x:IX)
 |pick (c x y:IX)
 |j7 (zero:List AV)
 |ng (zero:List AV)
 |JY (n:Nat) (x:IX)
 |Bg (n:Nat) (x:IX)
 |build (zero:List AV) (parts:List (Nat×Nat×IX))
 |ie (sz len:Nat) (zero:List AV) (parts:List (Nat×Nat×IX))
 |load (n:Nat) (multi:Bool) (x:IX)
 |store (n:Nat) (p v:IX)
 |nilCheck (x:IX)
 |bin (op:BinOp) (x y:IX)
 |ZA (ne:Bool) (x y:IX)
 |VS (ne:Bool) (x y:IX)
 |VT (ne:Bool) (x y:IX)
 |un (op:UnOp) (x:IX)
 |ni (k:IntKind) (x:IX)
 |kO (x:IX)
 |lT (x i:IX)
 |fieldAddr (off:Nat) (x:IX)
 |indexAddr (zero:List AV) (x i:IX)
 |jE (sz len:Nat) (x i:IX)
 |slice (sz:Nat) (x:IX) (lo hi mx:Option IX)
 |qo (x:IX) (lo hi:Option IX)
 |extract (x:IX) (k:Nat)
 |len (cls:Nat) (x:IX)
 |cap (x:IX)
 |mi (mx:Bool) (xs:List IX)
 |append (sz bytes:Nat) (x y:IX)
 |lO (sz bytes:Nat) (zero:List AV) (l c:IX)
 |makeMap
 |lookup (kk:ny) (zero:AV) (ok:Bool) (x k:IX)
 |mapUpdate (kk:ny) (x k v:IX)
 |ks (zero:List AV) (multi:Bool) (x:IX)
 |oE (x:IX)
 |vI (x:IX)
 |call (f:Nat) (args:List IX)
 |jh (x:IX) (args:List IX)
 |uc (f:Nat) (first fF:List IX)
 |mL (sz len:Nat) (zero:List AV) (parts:List (Nat×Nat×IX))
 |nD (sz bytes:Nat) (zero:List AV) (x y:IX)
 |AD (sz:Nat) (x y:IX)
 |tx (zero:List AV) (x:IX)
 |VU (sz:Nat) (own:Bool) (x:IX)
 |nv (x:IX)
 |ZB (ne:Bool) (x:IX)
 |Z9 (f:Nat) (x y:IX)
 |xQ (f i:Nat) (args:List IX)
 |pE (sz bytes:Nat) (zero:List AV) (x y:IX)
 |WD (ne:Bool) (x:IX)
 |ux (sz n:Nat) (p v:IX)
 |JZ (sz n:Nat) (x:IX)
 |nw (off:Nat) (j x:IX)
 |nx (k:IntKind) (x:IX)
 |WE (ne:Bool) (x:IX)
 |AX (sz:Nat) (own:Bool) (x:IX)
 |Ki (x:IX)
 |Ay (f:Nat) (x:IX)
 |Kh (u:Nat) (x:IX)
 |J0 (n t j u:Nat) (x:IX)
 |pD (t:Nat) (x y:IX)
 deriving Inhabited
structure ar where
 dst:Option Nat
 op:sD
 g:Option (Nat×Bool)
 deriving Inhabited
inductive IC where
 |skip
 |Er (q:Option Nat) (ops:List ar) (live:List Nat)
 |U0 (T:List Nat) (q:Nat) (ops:List ar) (live:List Nat)
 |Q3 (T:List Nat) (l:List (Nat×Nat×ar)) (live:List Nat)
 |Yh (iH:List (List Bool)) (ops:List ar) (live:List Nat)
 |seq (a b:IC)
 |cond (c:IX) (a b:IC)
 |block (id:Nat) (b:IC)
 |loop (live:List (Nat×Bool)) (b:IC)
 |join (live:List (Nat×Bool)) (a b:IC)
 |exit (id:Nat)
 |scope (b:IC)
 |DV (l:Nat) (live:List (Nat×Bool)) (a1 a2 a3 r:IC)
 |label (l:Nat)
 |goto (l:Nat)
 |ret
 |dead
 deriving Inhabited
structure St where
 e:List (Nat×AV)
 lp:List (Nat×Nat)
 s:ae
def look:List (Nat×AV)->Nat->AV
 |[],_=>.undef
 |(j,a)::l,i=>bif j==i then a else look l i
def St.x(E:St):IX->AV
 |.t i=>look E.e i
 |.c a=>a
def St.put(E:St)(d:Option Nat)(a:AV):St:=
 match d with
 |some d=>{E with e:=(d,a)::E.e}
 |none=>E
def ey:AV->AV
 |.lp _ _=>.undef
 |.when _ _=>.undef
 |a=>a
def St.xb(E:St)(live:List Nat):St:={e:=live.map fun i=>(i,ey (look E.e i)),lp:=[],s:=E.s}
def view:AV->AV
 |.sl _ sz n cs=>.sl false sz n cs
 |.us _ _ _=>.undef
 |.oy _=>.fN
 |.bb _ n cs=>.sl false 1 n cs
 |a=>a
def VF(b:Bool)(a:AV):AV:=bif b then view a else a
def St.fu(E:St)(live:List (Nat×Bool)):St:={e:=live.map fun p=>(p.1,VF p.2 (ey (look E.e p.1))),lp:=[],s:=E.s}
def inner:AV->Bool
 |.loc _=>false
 |.when _ _=>false
 |_=>true
def vi(g:Bool):AV->AV
 |.when b a=>bif((b==g)||b)&&inner a then a else .undef
 |a=>a
def Th:Int:=9223372036854775807
def dJ:AV->Bool
 |.undef=>false
 |.lp _ _=>false
 |.loc _=>false
 |.jg _=>false
 |.when _ _=>false
 |.us _ _ _=>false
 |.oy _=>false
 |_=>true
def j6(k:IntKind)(n:Int):Int:=k.wrap n
inductive PR where
 |da (a:AV)
 |prt (c:Prop) (a:AV)
 |no
def QF(k k':IntKind):Bool:=decide (k=k')
def kk(k k':IntKind)(r:PR):PR:=bif QF k k' then r else .no
def sQ(op:BinOp)(k k':IntKind)(a b:Int):PR:=
 match op with
 |.shl=>.prt (0<=b) (.int k (j6 k (a*2^(min b.toNat k.bits))))
 |.shr=>.prt (0<=b) (.int k (a.fdiv (2^(min b.toNat k.bits))))
 |.add=>kk k k' (.da (.int k (j6 k (a+b))))
 |.sub=>kk k k' (.da (.int k (j6 k (a -b))))
 |.mul=>kk k k' (.da (.int k (j6 k (a*b))))
 |.quo=>kk k k' (.prt (b≠0) (.int k (j6 k (a.tdiv b))))
 |.rem=>kk k k' (.prt (b≠0) (.int k (a.tmod b)))
 |.and=>kk k k' (.da (.int k (k.wrap (BitVec.ofInt k.bits a&&&BitVec.ofInt k.bits b).toNat)))
 |.or=>kk k k' (.da (.int k (k.wrap (BitVec.ofInt k.bits a |||BitVec.ofInt k.bits b).toNat)))
 |.xor=>kk k k' (.da (.int k (k.wrap (BitVec.ofInt k.bits a^^^BitVec.ofInt k.bits b).toNat)))
 |.andNot=>kk k k' (.da (.int k (k.wrap (BitVec.ofInt k.bits a&&& ~~~BitVec.ofInt k.bits b).toNat)))
 |.eql=>kk k k' (.da (.bool (a==b)))
 |.neq=>kk k k' (.da (.bool (a !=b)))
 |.lss=>kk k k' (.da (.bool (decide (a<b))))
 |.leq=>kk k k' (.da (.bool (decide (a<=b))))
 |.gtr=>kk k k' (.da (.bool (decide (a>b))))
 |.geq=>kk k k' (.da (.bool (decide (a>=b))))
def JW(op:BinOp)(a b:List UInt8):PR:=
 match op with
 |.add=>.prt (((a.length+b.length:Nat):Int)<=Th) (.str (a++b))
 |.eql=>.da (.bool (a==b))
 |.neq=>.da (.bool (!(a==b)))
 |.lss=>.da (.bool (Op.bytesLess a b))
 |.leq=>.da (.bool (Op.bytesLess a b||a==b))
 |.gtr=>.da (.bool (!(Op.bytesLess a b||a==b)))
 |.geq=>.da (.bool (!Op.bytesLess a b))
 |_=>.no
def Mv(op:BinOp)(x y:AV):PR:=
 match x,y with
 |.int k a,.int k' b=>sQ op k k' a b
 |.str a,.str b=>JW op a b
 |_,_=>.no
def MW(ne:Bool)(x y:AV):PR:=
 match x,y with
 |.bool a,.bool b=>.da (.bool ((a==b)!=ne))
 |_,_=>.no
def EF(ne:Bool)(x y:AV):PR:=
 match x,y with
 |.fN,.fN=>.da (.bool (!ne))
 |.ref _ _,.fN=>.da (.bool ne)
 |.fN,.ref _ _=>.da (.bool ne)
 |.ref b o,.ref b' o'=>bif b==b'&&o==o' then .da (.bool (!ne))else .no
 |_,_=>.no
def SD(ne:Bool)(x y:AV):PR:=
 match x,y with
 |.sl _ _ (_+1) _,.sl _ _ 0 []=>.da (.bool ne)
 |.arr _ _ _ (_+1),.sl _ _ 0 []=>.da (.bool ne)
 |_,_=>.no
def Ou:List AV->List AV->Bool
 |[],[]=>true
 |.int k _::r,.int k' _::s=>QF k k'&&Ou r s
 |_,_=>false
def SB:List AV->List AV->Bool
 |.int _ a::r,.int _ b::s=>(a==b)&&SB r s
 |_,_=>true
def alL(n:Nat)(ne:Bool)(x y:AV):PR:=
 match x,y with
 |.agg cs,.agg ds=>bif Ou cs ds&&cs.length==n then .da (.bool (SB cs ds !=ne))else .no
 |_,_=>.no
def Kx(ne:Bool):AV->PR
 |.ml=>.da (.bool (!ne))
 |_=>.no
def Kw(ne:Bool):AV->PR
 |.fn _ _ _=>.da (.bool ne)
 |.py=>.da (.bool (!ne))
 |_=>.no
def cellsOf:AV->List AV
 |.agg cs=>cs
 |a=>[a]
def oq(multi:Bool)(cs:List AV):AV:=match multi,cs with
 |true,cs=>.agg cs
 |false,a::_=>a
 |false,[]=>.undef
def sub(cs:List AV)(off n:Nat):List AV:=(cs.drop off).take n
def views(cs:List AV):List AV:=cs.map view
def bB:AV->List AV
 |.agg cs=>views cs
 |a=>[a]
def setAt(cs:List AV)(off:Nat)(news:List AV):List AV:=cs.take off++news++cs.drop (off+news.length)
def bx(b:Bool):AV->Option Bool
 |.bool x=>some x
 |.when b' (.bool x)=>bif(b'==b)||b' then some x else none
 |_=>none
def fill(f:IX->AV)(cells:List AV):List (Nat×Nat×IX)->Option (List AV)
 |[]=>some cells
 |(off,n,x)::r=>
  let c:=views (cellsOf (f x))
  bif dJ (f x)&&(c.length==n&&decide (off+n<=cells.length))then fill f (setAt cells off c) r else none
def fP(n off:Nat)(cs:List AV):Option (List AV):=bif decide (off+n<=cs.length)then some (views (sub cs off n))else none
def l6(n off:Nat):AV->Option (List AV)
 |.loc cs=>fP n off cs
 |_=>none
def rj(n off:Nat):Option SO->Option (List AV)
 |some (.cells cs)=>fP n off cs
 |_=>none
def rd(E:St)(p:AV)(n:Nat):Option (List AV):=
 match p with
 |.loc cs=>fP n 0 cs
 |.lp d off=>l6 n off (look E.e d)
 |.sp cs=>fP n 0 cs
 |.ref b off=>rj n off (E.s b)
 |_=>none
def Gx(f:IX->AV)(o:Option IX)(ajj:Int):Option Int:=
 match o with
 |none=>some ajj
 |some x=>match f x with
  |.int _ n=>some n
  |_=>none
def Ln(mx:Bool):Int->List AV->Option Int
 |a,[]=>some a
 |a,.int _ b::r=>Ln mx (bif mx then max a b else min a b) r
 |_,_=>none
def qH:AV->Bool
 |.agg _=>false
 |a=>dJ a
def Fl(cs:List AV):Prop:=∀c∈cs,qH c=true
def Eu(t:Nat)(cs:List AV):Prop:=∀c∈cs,qH c=true\/c=.oy t
def QM(a:AV):PR:=bif dJ a then .da (view a)else .no
def SV:AV->Option (Bool×Bool)
 |.bool x=>some (true,x)
 |.when b (.bool x)=>some (b,x)
 |_=>none
def UF(b:Bool):Option (Bool×Bool)->Option (Bool×Bool)->PR
 |some (g1,p),some (g2,q)=>.prt ((b=true->g1=true)/\(b=false->g2=true)) (.bool (bif b then p else q))
 |_,_=>.no
def gv2:AV->Option (Bool×Bool)
 |.jg []=>some (false,false)
 |a=>SV a
def GW(x y:AV):AV->PR
 |.bool b=>UF b (gv2 x) (gv2 y)
 |_=>.no
def Zp(a:AV):PR:=bif dJ a then .da a else .no
def ckP(c:Prop)(a:AV):PR:=bif dJ a then .prt c a else .no
def unV:UnOp->AV->PR
 |.not,.bool b=>.da (.bool (!b))
 |.neg,.int k n=>.da (.int k (j6 k (0 -n)))
 |_,_=>.no
def uJ(k:IntKind):AV->PR
 |.int _ n=>.da (.int k (j6 k n))
 |_=>.no
def ajf:AV->PR
 |.str s=>.da (.str s)
 |_=>.no
def j5(multi:Bool):Option (List AV)->PR
 |some cs=>Zp (oq multi cs)
 |none=>.no
def ajp(n:Nat)(multi:Bool)(off:Nat):AV->PR
 |.agg cs=>bif decide (off+n<=cs.length)then Zp (view (oq multi (sub cs off n)))else .no
 |_=>.no
def aj5(n:Nat)(multi:Bool)(len:Nat):AV->AV->PR
 |.agg cs,.int _ k=>bif len*n==cs.length then ckP (0<=k/\k<len) (view (oq multi (sub cs (k.toNat*n) n)))else .no
 |_,_=>.no
def vd:AV->AV->PR
 |.str s,.int _ k=>.prt (0<=k/\k<s.length) (.int .u8 (s.getD k.toNat 0).toNat)
 |_,_=>.no
def mj:AV->PR
 |.ref b off=>.da (.ref b off)
 |_=>.no
def QJ(c:Prop)(off:Nat):IX->PR
 |.t i=>.prt (c) (.lp i off)
 |.c _=>.no
def gP(off:Nat)(x:IX):AV->PR
 |.lp d o=>.da (.lp d (o+off))
 |.sp cs=>bif decide (off<=cs.length)then .da (.sp (cs.drop off))else .no
 |.ref b o=>.da (.ref b (o+off))
 |.loc _=>QJ True off x
 |_=>.no
def pad(zero cs:List AV):List AV:=bif cs.length==zero.length then cs else zero
def kS(zero:List AV):AV->AV->PR
 |.sl _ s n cs,.int _ k=>bif s==zero.length then .prt (0<=k/\k<n) (.sp (pad zero (views (sub cs (k.toNat*zero.length) zero.length))))else .no
 |.arr b off n _,.int _ k=>.prt (0<=k/\k<n) (.ref b (off+k.toNat*zero.length))
 |_,_=>.no
def gA(sz len:Nat)(x:IX):AV->AV->PR
 |.lp d o,.int _ k=>.prt (0<=k/\k<len) (.lp d (o+k.toNat*sz))
 |.sp cs,.int _ k=>bif decide (len*sz<=cs.length)then .prt (0<=k/\k<len) (.sp (cs.drop (k.toNat*sz)))else .no
 |.ref b o,.int _ k=>.prt (0<=k/\k<len) (.ref b (o+k.toNat*sz))
 |.loc _,.int _ k=>QJ (0<=k/\k<len) (k.toNat*sz) x
 |_,_=>.no
def B9(sz n:Nat)(cs:List AV):Option Int->Option Int->PR
 |some l,some h=>bif Nat.ble 1 sz then .prt (0<=l/\l<=h/\h<=n) (.sl false sz ((sub cs (l.toNat*sz) ((h -l).toNat*sz)).length/sz) (sub cs (l.toNat*sz) ((h -l).toNat*sz)))else .no
 |_,_=>.no
def jF(off cap l sz:Nat):Nat:=bif cap==l then off else off+l*sz
def y6(sz b off cap:Nat):Option Int->Option Int->PR
 |some l,some h=>.prt (0<=l/\l<=h/\h<=cap) (.arr b (jF off cap l.toNat sz) (h -l).toNat (cap -l.toNat))
 |_,_=>.no
def Aj(sz b off cap:Nat):Option Int->Option Int->Option Int->PR
 |some l,some h,some m=>.prt (0<=l/\l<=h/\h<=m/\m<=cap) (.arr b (jF off m.toNat l.toNat sz) (h -l).toNat (m.toNat -l.toNat))
 |_,_,_=>.no
def pU(sz:Nat)(f:IX->AV)(lo hi:Option IX)(mx:IX):AV->PR
 |.arr b off _ cap=>Aj sz b off cap (Gx f lo 0) (bif hi.isSome then Gx f hi 0 else none) (Gx f (some mx) 0)
 |_=>.no
def MD:AV->PR
 |.arr _ _ _ cap=>.da (.int .i64 cap)
 |_=>.no
def ur(sz:Nat)(f:IX->AV)(lo hi:Option IX):AV->PR
 |.sl _ s n cs=>bif s==sz then B9 sz n cs (Gx f lo 0) (Gx f hi n)else .no
 |.arr b off n cap=>y6 sz b off cap (Gx f lo 0) (Gx f hi n)
 |_=>.no
def DX(s:List UInt8):Option Int->Option Int->PR
 |some l,some h=>.prt (0<=l/\l<=h/\h<=s.length) (.str ((s.drop l.toNat).take (h -l).toNat))
 |_,_=>.no
def mB(f:IX->AV)(lo hi:Option IX):AV->PR
 |.str s=>DX s (Gx f lo 0) (Gx f hi s.length)
 |_=>.no
def Nv:Option SO->PR
 |some (.map es)=>.da (.int .i64 es.length)
 |_=>.no
def BB(s:ae):Nat->AV->PR
 |0,.sl _ _ n _=>.da (.int .i64 n)
 |0,.arr _ _ n _=>.da (.int .i64 n)
 |1,.str s=>.da (.int .i64 s.length)
 |2,.ud=>.da (.int .i64 0)
 |2,.mp b=>Nv (s b)
 |_,_=>.no
def agv(k:IntKind):Option Int->PR
 |some m=>.da (.int k m)
 |none=>.no
def uV(mx:Bool):List AV->PR
 |.int k n::r=>agv k (Ln mx n r)
 |_=>.no
def Ky:Option AV->PR
 |some a=>Zp (view a)
 |none=>.no
def qF(k:Nat):AV->PR
 |.jg vs=>Ky vs[k]?
 |_=>.no
def byteOf:AV->Option UInt8
 |.int .u8 n=>if 0<=n/\n<256 then some (UInt8.ofNat n.toNat)else none
 |_=>none
def Sg{α:Type}:Option α->Option (List α)->Option (List α)
 |some a,some l=>some (a::l)
 |_,_=>none
def bytesOf:List AV->Option (List UInt8)
 |[]=>some []
 |a::r=>Sg (byteOf a) (bytesOf r)
def aay:Option (List UInt8)->PR
 |some l=>.da (.str l)
 |none=>.no
def rW:AV->PR
 |.sl _ sz _ cs=>bif sz==1 then aay (bytesOf cs)else .no
 |_=>.no
def Co:Option (List AV)->PR
 |some cs=>.da (.agg cs)
 |none=>.no
def P5(a:AV):Option (List AV)->Option (List AV)
 |some l=>bif dJ a then some (view a::l)else none
 |none=>none
def cN(f:IX->AV):List IX->Option (List AV)
 |[]=>some []
 |x::r=>P5 (f x) (cN f r)
def uU(fi:Nat):Option (List AV)->Option (List AV)->PR
 |some a,some b=>.da (.fn fi a b)
 |_,_=>.no
def Li(zero:List AV)(multi:Bool)(off:Nat):Option SO->PR
 |some (.cells cs)=>ckP (off+zero.length<=cs.length) (oq multi (pad zero (views (sub cs off zero.length))))
 |_=>.no
def GF(zero:List AV)(multi:Bool)(s:ae):AV->PR
 |.ref b off=>Li zero multi off (s b)
 |_=>.no
def Nx(k:IntKind)(off:Nat):Option SO->Prop
 |some (.cells cs)=>∃n,cs[off]? =some (.int k n)
 |_=>False
def intOf:Option AV->Int
 |some (.int _ n)=>n
 |_=>0
def Ny(off:Nat):Option SO->Int
 |some (.cells cs)=>intOf cs[off]?
 |_=>0
def zS(k:IntKind)(s:ae):AV->PR
 |.ref b off=>.prt (Nx k off (s b)) (.int k (Ny off (s b)))
 |_=>.no
def pv(o:sD)(f:IX->AV)(E:St):PR:=
 match o with
 |.oU false x=>QM (f x)
 |.pick c x y=>GW (E.x x) (E.x y) (f c)
 |.bin op x y=>Mv op (f x) (f y)
 |.ZA ne x y=>MW ne (f x) (f y)
 |.VS ne x y=>EF ne (f x) (f y)
 |.VT ne x (.c (.sl true z 0 []))=>SD ne (f x) (.sl true z 0 [])
 |.un op x=>unV op (f x)
 |.ni k x=>uJ k (f x)
 |.load n multi x=>j5 multi (rd E (f x) n)
 |.lT x i=>vd (f x) (f i)
 |.nilCheck x=>mj (f x)
 |.fieldAddr off x=>gP off x (f x)
 |.indexAddr zero x i=>kS zero (f x) (f i)
 |.jE sz len x i=>gA sz len x (f x) (f i)
 |.slice sz x lo hi none=>ur sz f lo hi (f x)
 |.qo x lo hi=>mB f lo hi (f x)
 |.len cls x=>BB E.s cls (f x)
 |.mi mx xs=>uV mx (xs.map f)
 |.extract x k=>qF k (f x)
 |.build zero parts=>Co (fill f zero parts)
 |.uc fi first fF=>uU fi (cN f first) (cN f fF)
 |.kO x=>rW (f x)
 |.ks zero multi x=>GF zero multi E.s (f x)
 |.nx k x=>zS k E.s (f x)
 |.slice sz x lo hi (some mx)=>pU sz f lo hi mx (f x)
 |.cap x=>MD (f x)
 |.WD ne x=>Kw ne (f x)
 |.WE ne x=>Kx ne (f x)
 |_=>.no
inductive dp where
 |none
 |frame
 |slot (i j:Nat)
 |loc (i:Nat)
 |sh
 |cell (b j:Nat)
 |res (j:Nat)
 deriving DecidableEq
structure Gh where
 R:Nat->Nat
 O:Nat->dp
inductive VR(w:World)(R:Nat->Nat):AV->Value->Prop where
 |undef (v:Value):VR w R .undef v
 |bool (b:Bool):VR w R (.bool b) (.bool b)
 |int (k:IntKind) (n:Int):VR w R (.int k n) (.int k n)
 |str (s:List UInt8):VR w R (.str s) (.string ⟨s.toArray⟩)
 |fN:VR w R .fN (.pointer none)
 |ref (b off:Nat):VR w R (.ref b off) (.pointer (some ⟨b,off,none⟩))
 |sp (cs:List AV) (b off:Nat) (u:Nat->Value) (hf:Fl cs) (hR:off+cs.length<=R b)
   (hc:∀(j:Nat)(c:AV),cs[j]? =some c->w.cell? ⟨b,off+j,none⟩=some (u j)) (hr:∀(j:Nat)(c:AV),cs[j]? =some c->VR w R c (u j)):
   VR w R (.sp cs) (.pointer (some ⟨b,off,none⟩))
 |slnil (own:Bool) (sz:Nat):VR w R (.sl own sz 0 []) (.slice none 0 0)
 |sle (sz:Nat) (a:Addr) (cap:Nat):VR w R (.sl false sz 0 []) (.slice (some a) 0 cap)
 |sl (own:Bool) (sz n:Nat) (cs:List AV) (b off cap:Nat) (u:Nat->Value) (hf:Fl cs) (hl:cs.length=n*sz) (hR:off+cs.length<=R b) (fI:n<=cap)
   (hc:∀(j:Nat)(c:AV),cs[j]? =some c->w.cell? ⟨b,off+j,none⟩=some (u j)) (hr:∀(j:Nat)(c:AV),cs[j]? =some c->VR w R c (u j)):
   VR w R (.sl own sz n cs) (.slice (some ⟨b,off,none⟩) n cap)
 |arr (b off len cap:Nat):VR w R (.arr b off len cap) (.slice (some ⟨b,off,none⟩) len cap)
 |HC (b off:Nat):VR w R (.arr b off 0 0) (.slice none 0 0)
 |agg (cs:List AV) (vs:Array Value) (hf:Fl cs) (hl:vs.size=cs.length) (hr:∀(j:Nat)(c:AV)(v:Value),cs[j]? =some c->vs[j]? =some v->VR w R c v):VR w R (.agg cs) (.agg vs)
 |jg (cs:List AV) (vs:Array Value) (hl:vs.size=cs.length) (hr:∀(j:Nat)(c:AV)(v:Value),cs[j]? =some c->vs[j]? =some v->VR w R c v):VR w R (.jg cs) (.tuple vs)
 |fn (f:Nat) (first fF:List AV) (vf vc:Array Value) (hl:vf.size=first.length) (hr:∀(j:Nat)(c:AV)(v:Value),first[j]? =some c->vf[j]? =some v->VR w R c v)
   (hl':vc.size=fF.length) (hr':∀(j:Nat)(c:AV)(v:Value),fF[j]? =some c->vc[j]? =some v->VR w R c v):VR w R (.fn f first fF) (.func (.func f) vf vc)
 |py:VR w R .py .nilFunc
 |mp (b:Nat):VR w R (.mp b) (.map (some b))
 |ud:VR w R .ud (.map none)
 |when (b:Bool) (a:AV) (v:Value) (h:b=true->VR w R a v):VR w R (.when b a) v
 |one (v:Value) (h:v.oneCell'=true):VR w R .one v
 |oy (t:Nat):VR w R (.oy t) (.pointer none)
 |ml:VR w R .ml .nilIface
 |bb (t n:Nat) (cs:List AV) (v:Value) (h:VR w R (.sl true 1 n cs) v) (h0:n=0->v=.slice none 0 0):VR w R (.bb t n cs) v
def dS(G:Gh)(w:World)(o:dp)(a:AV)(v:Value):Prop:=
 match a with
 |.sl true sz n _=>∀base m cap,v=.slice base m cap->(cap≠n\/0<n)->
   ∃b off c e fz,base=some ⟨b,off,none⟩/\G.O b=o/\G.R b=off+n*sz/\w.heap[b]? =some (.cells c e fz)/\c.size=off+cap*sz/\
    (∀k,k<c.size->¬(fz.1<=k/\k<fz.2))/\fz.1<=fz.2/\off=0/\(fz=(0,0)\/(0<n/\∃x,c[0]? =some (.int .u8 x)))/\
    ∀(k:Nat)(y:Value),off+n*sz<=k->c[k]? =some y->y.oneCell'=true
 |.bb e n _=>∀base m cap,v=.slice base m cap->(cap≠n\/0<n)->
   ∃b off c fz,base=some ⟨b,off,none⟩/\G.O b=o/\G.R b=off+n*1/\w.heap[b]? =some (.cells c e fz)/\c.size=off+cap*1/\
    (∀k,k<c.size->¬(fz.1<=k/\k<fz.2))/\fz.1<=fz.2/\off=0/\(fz=(0,0)\/(0<n/\∃x,c[0]? =some (.int .u8 x)))/\
    ∀(k:Nat)(y:Value),off+n*1<=k->c[k]? =some y->y.oneCell'=true
 |_=>True
def dF(G:Gh)(w:World)(o:Nat->dp)(cs:List AV)(c:Array Value):Prop:=c.size=cs.length/\∀(j:Nat)(x:AV)(y:Value),cs[j]? =some x->c[j]? =some y->VR w G.R x y/\dS G w (o j) x y
def UsR(G:Gh)(w:World)(o:dp)(sz n:Nat)(cs:List AV)(v:Value):Prop:=
 (n=0/\cs=[]/\(v=.slice none 0 0\/∃b off,v=.slice (some ⟨b,off,none⟩) 0 0))\/
 ∃b cap c t sp,0<cap/\n<=cap/\v=.slice (some ⟨b,0,none⟩) n cap/\G.O b=o/\G.R b=0/\w.heap[b]? =some (.cells c t (0,0))/\c.size=cap*sz/\cs.length=n*sz/\(cs++sp).length=cap*sz/\
  (∀(j:Nat)(x:AV)(u:Value),(cs++sp)[j]? =some x->c[j]? =some u->VR w G.R x u)/\Fl (cs++sp)/\views (cs++sp)=cs++sp
def ee(G:Gh)(w:World)(e:List (Nat×AV))(tmps:Array Value)(i:Nat):AV->Value->Prop
 |.loc cs,v=>∃b c t,v=.pointer (some ⟨b,0,none⟩)/\G.O b=.loc i/\G.R b=0/\w.heap[b]? =some (.cells c t (0,0))/\dF G w (.cell b) cs c/\Fl cs
 |.lp d off,v=>∃b,v=.pointer (some ⟨b,off,none⟩)/\∀cs,look e d=.loc cs->tmps[d]? =some (.pointer (some ⟨b,0,none⟩))
 |.jg vs,v=>∃ys:Array Value,v=.tuple ys/\dF G w (fun j=>.slot i (j+1)) vs ys
 |.when b a,v=>(b=true->ee G w e tmps i a v)/\(b=false->v=.tuple #[])
 |.us sz n cs,v=>UsR G w (.slot i 0) sz n cs v
 |a,v=>VR w G.R a v/\dS G w (.slot i 0) a v
def bP:AV->Nat->Prop
 |.lp d _,d'=>d=d'
 |.when _ a,d'=>bP a d'
 |_,_=>False
structure cE(G:Gh)(w:World):Prop where
 kc:∀b,w.heap.size<=b->G.O b=.none
 kV:∀b,w.heap.size<=b->G.R b=0
def ae0(G:Gh)(w:World)(x:AV×AV)(y:MapEntry):Prop:=VR w G.R x.1 y.key/\VR w G.R x.2 y.val
def bc(G:Gh)(w:World)(s:ae):Prop:=
 ∀b o,s b=some o->G.O b=.sh/\G.R b=0/\match o with
  |.cells cs=>∃c t,w.heap[b]? =some (.cells c t (0,0))/\dF G w (.cell b) cs c/\Eu t cs
  |.map es=>∃jC clock,w.heap[b]? =some (.map jC clock)/\jC.size=es.length/\∀(j:Nat)(x:AV×AV)(y:MapEntry),es[j]? =some x->jC[j]? =some y->ae0 G w x y
structure Inv(G:Gh)(n:Nat)(D:List Deferred)(E:St)(a:Act)(w:World):Prop where
 aZ:cE G w
 store:bc G w E.s
 size:a.tmps.size=n
 cG:∀(i:Nat)(v:Value),a.tmps[i]? =some v->ee G w E.e a.tmps i (look E.e i) v
 EB:∀i,n<=i->look E.e i=.undef
 Mj:∀i d,bP (look E.e i) d->(i,d)∈E.lp
 qE:a.defers=D
structure aI(G:Gh)(w:World)(G':Gh)(w':World):Prop where
 os:w'.os=w.os
 tape:w'.tape=w.tape
 output:w'.output=w.output
 drawn:w.drawn<=w'.drawn
 size:w.heap.size<=w'.heap.size
 mono:∀b,b<w.heap.size->G.R b<=G'.R b
 nq:∀b k,b<w.heap.size->k<G.R b->w'.cell? ⟨b,k,none⟩=w.cell? ⟨b,k,none⟩
 frame:∀b,b<w.heap.size->G.O b=.frame\/G.O b=.none->w'.heap[b]? =w.heap[b]?
 j8:∀b,b<w.heap.size->G.O b=.frame->G'.O b=.frame/\G'.R b=G.R b
 rf:∀b,b<w.heap.size->G.O b=.none->G'.O b=.none/\G'.R b=G.R b
def aaq(G:Gh)(w:World)(a:AV)(v:Value):Prop:=
 match a with
 |.us sz n cs=>UsR G w (.res 0) sz n cs v
 |a=>VR w G.R a v/\dS G w (.res 0) a v
def nz(G:Gh)(w:World)(rs:List AV)(v:Value):Prop:=
 match rs with
 |[a]=>aaq G w a v
 |rs=>∃ys:Array Value,v=.tuple ys/\dF G w (fun j=>.res j) rs ys
def xE(G:Gh):Prop:=∀b,G.O b=.none\/G.O b=.frame\/G.O b=.sh\/∃b' j,G.O b=.cell b' j/\G.O b'=.sh
def lY(w:World)(R:Nat->Nat)(args:List AV)(vs:Array Value):Prop:=vs.size=args.length/\∀(j:Nat)(a:AV)(v:Value),args[j]? =some a->vs[j]? =some v->VR w R a v
def FN(P:Program)(f:FuncId)(args:List AV)(s:ae)(Q:List AV->ae->Prop):Prop:=
 ∀(G:Gh)(w:World)(vs:Array Value),cE G w->xE G->bc G w s->lY w G.R args vs->
  Calls P f vs w fun e w'=>∃v rs s' G',e=.returned v/\Q rs s'/\cE G' w'/\bc G' w' s'/\nz G' w' rs v/\aI G w G' w'
def FN.mono{P:Program}{f:FuncId}{args:List AV}{s:ae}{Q Q':List AV->ae->Prop}(h:FN P f args s Q)(hq:∀rs s',Q rs s'->Q' rs s'):FN P f args s Q':=fun G w vs h1 h2 h3 h4=>(h G w vs h1 h2 h3 h4).mono fun _ _⟨v,rs,s',G',a,b,c⟩=>⟨v,rs,s',G',a,hq _ _ b,c⟩
def FE(P:Program)(f:FuncId)(args:List AV)(s:ae)(rs:List AV)(s':ae):Prop:=FN P f args s fun r t=>r=rs/\t=s'
theorem FE.app{P:Program}{f:FuncId}{args:List AV}{s s':ae}{rs:List AV}{Q:List AV->ae->Prop}(h:FE P f args s rs s')(hq:Q rs s'):FN P f args s Q:=FN.mono h fun _ _⟨h1,h2⟩=>by rw[h1,h2];exact hq
def fQ:List AV->AV
 |[a]=>a
 |rs=>.jg rs
def room:Nat:=140737488355328
def mf(lp:List (Nat×Nat))(d:Option Nat):Bool:=match d with
 |some d=>lp.all fun x=>!Nat.beq x.2 d
 |none=>true
def St.drain(E:St)(x:IX):St:=match x with
 |.t i=>E.put (some i) (view (look E.e i))
 |.c _=>E
def eU(off:Nat)(news:List AV)(fX:List AV):Option (List AV):=bif decide (off+news.length<=fX.length)then some (setAt fX off news)else none
def wrL(E:St)(d:Nat):Option (List AV)->Option St
 |some cs=>some (E.put (some d) (.loc cs))
 |none=>none
def wrS(E:St)(b:Nat):Option (List AV)->Option St
 |some cs=>some {E with s:=E.s.set b (.cells cs)}
 |none=>none
def Ht(E:St)(d off:Nat)(news:List AV):AV->Option St
 |.loc fX=>wrL E d (eU off news fX)
 |_=>none
def Oj(E:St)(b off:Nat)(news:List AV):Option SO->Option St
 |some (.cells fX)=>wrS E b (eU off news fX)
 |_=>none
def ahY(E:St)(news fX:List AV):IX->Option St
 |.t d=>wrL E d (eU 0 news fX)
 |.c _=>none
def FM(E:St)(p:AV)(i:IX)(news:List AV):Option St:=
 match p with
 |.loc fX=>ahY E news fX i
 |.lp d off=>Ht E d off news (look E.e d)
 |.ref b off=>Oj E b off news (E.s b)
 |_=>none
def TS:AV->AV->Bool
 |.int _ a,.int _ b=>a==b
 |.str a,.str b=>a==b
 |.bool a,.bool b=>a==b
 |_,_=>false
def si:List AV->List AV->Bool
 |[],[]=>true
 |a::x,b::y=>TS a b&&si x y
 |_,_=>false
def yz(a b:AV):Bool:=si (cellsOf a) (cellsOf b)
def gF(k:AV):List (AV×AV)->Option AV
 |[]=>none
 |x::r=>bif yz k x.1 then some x.2 else gF k r
def yU(k v:AV):List (AV×AV)->List (AV×AV)
 |[]=>[(k,v)]
 |x::r=>bif yz k x.1 then(k,v)::r else x::yU k v r
section
variable(P:Program)
def Ue(E:St)(x:IX)(d:Option Nat)(K:St->Prop)(a:AV):Prop:=dJ a=true/\K ((E.drain x).put d a)
def Zg(n:Nat)(E:St)(d:Option Nat)(K:St->Prop)(a:AV):Prop:=dJ a=true/\(cellsOf a).length=n/\K (E.put d (.loc (views (cellsOf a))))
def Zi(n:Nat)(E:St)(d:Option Nat)(K:St->Prop)(a:AV):Prop:=dJ a=true/\(cellsOf a).length=n/\∀b,E.s b=none->K ({E with s:=E.s.set b (.cells (views (cellsOf a)))}.put d (.ref b 0))
def xO(sz n:Nat)(E:St)(d:Option Nat)(K:St->Prop):Option (List AV)->Prop
 |some cs=>cs.length=n*sz/\K (E.put d (.sl true sz n cs))
 |none=>False
def PI(d:Option Nat)(K:St->Prop):Option St->Prop
 |some τ=>K (τ.put d (.jg []))
 |none=>False
def Oa(n:Nat)(E:St)(p:IX)(v:IX)(d:Option Nat)(K:St->Prop)(a:AV):Prop:=dJ a=true/\(bB a).length=n/\PI d K (FM (E.drain v) (E.x p) p (bB a))
def mF(sz bytes:Nat)(E:St)(x:IX)(d:Option Nat)(K:St->Prop):AV->AV->Prop
 |.sl true s n cs,.sl _ s' m ds=>s=sz/\(s'=sz\/m=0)/\(n+m)*bytes<=room/\K ((E.drain x).put d (.sl true sz (n+m) (cs++views ds)))
 |.sl true s n cs,.str ds=>s=sz/\sz=1/\(n+ds.length)*bytes<=room/\K ((E.drain x).put d (.sl true sz (n+ds.length) (cs++ds.map fun c=>.int .u8 c.toNat)))
 |_,_=>False
def BU(E:St)(d:Option Nat)(K:St->Prop):AV->Prop
 |.sl _ sz _ cs=>sz=1/\∃s:List UInt8,cs=(s.map fun c=>.int .u8 c.toNat)/\K (E.put d (.str s))
 |_=>False
def agI:List UInt8->Bool
 |[]=>false
 |_::_=>true
def Qj(E:St)(d:Option Nat)(K:St->Prop):AV->Prop
 |.str s=>K (E.put d (.sl (agI s) 1 s.length (s.map fun c=>.int .u8 c.toNat)))
 |_=>False
def yE(bytes:Nat)(zero:List AV)(E:St)(d:Option Nat)(K:St->Prop):AV->AV->Prop
 |.int _ l,.int _ c=>0<=l/\l<=c/\c*bytes<=room/\
   ∀b,E.s b=none->K ({E with s:=E.s.set b (.cells ((List.replicate c.toNat zero).flatten))}.put d (.arr b 0 l.toNat c.toNat))
 |_,_=>False
def aim(sz bytes:Nat)(E:St)(d:Option Nat)(K:St->Prop):AV->Prop
 |.int _ c=>0<=c/\c*bytes<=room/\K (E.put d (.sl true sz 0 []))
 |_=>False
def NF(ok:Bool)(a:AV)(b:Bool):AV:=match ok with
 |true=>.jg [a,.bool b]
 |false=>a
def Da:AV->Bool
 |.int .u8 _=>true
 |_=>false
def gI:ny->AV->Bool
 |.int k,.int k' _=>QF k k'
 |.str,.str _=>true
 |.bool,.bool _=>true
 |.bytes n,.agg cs=>cs.length==n&&cs.all Da
 |_,_=>false
def oQ(kk:ny)(es:List (AV×AV)):Bool:=es.all fun x=>gI kk x.1
def we(zero:AV)(ok:Bool):Option AV->AV
 |some v=>NF ok (view v) true
 |none=>NF ok (view zero) false
def xm:AV->Bool
 |.jg _=>true
 |a=>dJ a
def DK:Bool->AV->Bool
 |true,_=>true
 |false,a=>dJ a
def Rz(ok:Bool)(c:Prop)(a:AV):PR:=bif DK ok a then .prt c a else .no
def uS(kk:ny)(zero:AV)(ok:Bool)(k:AV):Option SO->PR
 |some (.map es)=>Rz ok (gI kk k=true/\oQ kk es=true) (we zero ok (gF k es))
 |_=>.no
def kJ(kk:ny)(zero:AV)(ok:Bool)(s:ae)(k:AV):AV->PR
 |.mp b=>uS kk zero ok k (s b)
 |.ud=>Rz ok (gI kk k=true) (NF ok (view zero) false)
 |_=>.no
def E5:AV->PR
 |.sl true 1 (n+1) (.int .u8 x::cs)=>.da (.sl false 1 (n+1) (.int .u8 x::cs))
 |_=>.no
def Ed:AV->PR
 |.jg vs=>.da (.jg (views vs))
 |_=>.no
def RG(E:St)(d:Option Nat)(K:St->Prop):PR->Prop
 |.da a=>K (E.put d a)
 |.prt c a=>c/\K (E.put d a)
 |.no=>False
def adw(kk:ny)(b:Nat)(E:St)(k v:AV)(d:Option Nat)(K:St->Prop):Option SO->Prop
 |some (.map es)=>(dJ v=true/\gI kk k=true/\oQ kk es=true)/\K ({E with s:=E.s.set b (.map (yU (view k) (view v) es))}.put d (.jg []))
 |_=>False
def yF(kk:ny)(E:St)(k v:AV)(d:Option Nat)(K:St->Prop):AV->Prop
 |.mp b=>adw kk b E k v d K (E.s b)
 |_=>False
def TL:AV->Bool
 |.us _ _ _=>true
 |_=>false
def ke:List AV->Bool
 |[a]=>dJ a||TL a
 |_=>true
def J8(E:St)(d:Option Nat)(K:St->Prop)(rs:List AV)(s':ae):Prop:=ke rs=true/\K ({E with s:=s'}.put d (fQ rs))
def vR(f:Nat)(E:St)(d:Option Nat)(K:St->Prop):Option (List AV)->Prop
 |some args=>FN P f args E.s (J8 E d K)
 |none=>False
def sS(f:FuncId):Bool:=match P.funcs[f]? with
 |some fn=>fn.name != "runtime.NumGoroutine" &&fn.body.isSome
 |none=>false
def R4(f:Nat)(first fF:List AV)(E:St)(d:Option Nat)(K:St->Prop):Option (List AV)->Prop
 |some args=>sS P f=true/\FN P f (first++args++fF) E.s (J8 E d K)
 |none=>False
def wP(E:St)(args:Option (List AV))(d:Option Nat)(K:St->Prop):AV->Prop
 |.fn f first fF=>R4 P f first fF E d K args
 |_=>False
def xg(g:Bool)(E:St)(x:IX):AV:=vi g (E.x x)
def aaB(i:Nat)(E:St)(W:St->Prop):AV->Prop
 |.us sz n cs=>(∀b cap sp,E.s b=none->0<cap->n<=cap->(cs++sp).length=cap*sz->Fl (cs++sp)->views sp=sp->W ({E with s:=E.s.set b (.cells (cs++sp))}.put (some i) (.arr b 0 n cap)))/\
   (n=0->∀b off,W (E.put (some i) (.arr b off 0 0)))
 |_=>False
def s9(sz:Nat):AV->AV
 |.arr _ 0 0 0=>.sl true sz 0 []
 |a=>a
def cO(sz:Nat):AV->List AV
 |.agg cs=>(views cs).map (s9 sz)
 |a=>[a]
def PN(sz n:Nat)(E:St)(p:IX)(v:IX)(d:Option Nat)(K:St->Prop)(a:AV):Prop:=dJ a=true/\(cO sz a).length=n/\PI d K (FM (E.drain v) (E.x p) p (cO sz a))
def Zh(sz n:Nat)(E:St)(d:Option Nat)(K:St->Prop)(a:AV):Prop:=dJ a=true/\(cellsOf a).length=n/\∀b,E.s b=none->K ({E with s:=E.s.set b (.cells ((views (cellsOf a)).map (s9 sz)))}.put d (.ref b 0))
def zm(sz n:Nat)(E:St)(d:Option Nat)(K:St->Prop):Option (List AV)->Prop
 |some cs=>cs.length=n*sz/\∀b,E.s b=none->K ({E with s:=E.s.set b (.cells (views cs))}.put d (.arr b 0 n n))
 |none=>False
def jU(m sz off:Nat):Option SO->Option (Nat×List AV)
 |some (.cells cs)=>bif decide (off+m*sz<=cs.length)then some (m,views (sub cs off (m*sz)))else none
 |_=>none
def vL(s:ae)(sz:Nat):AV->Option (Nat×List AV)
 |.sl _ s' m ds=>bif s'==sz then some (m,views ds)else bif m==0 then some (0,[])else none
 |.str l=>bif sz==1 then some (l.length,l.map fun c=>.int .u8 c.toNat)else none
 |.arr b off m _=>bif m==0 then some (0,[])else jU m sz off (s b)
 |_=>none
def oZ(s:ae)(sz b off n:Nat):Option (List AV):=bif n==0 then some []else(jU n sz off (s b)).map Prod.snd
def xr(sz b off cap:Nat):Option SO->Prop
 |some (.cells cs)=>off+cap*sz<=cs.length
 |_=>False
def setRow(s:ae)(b off:Nat)(news:List AV):Option SO->ae
 |some (.cells cs)=>s.set b (.cells (setAt cs off news))
 |_=>s
def P3(sz bytes:Nat)(zero:List AV)(E:St)(d:Option Nat)(K:St->Prop)(b off n cap m:Nat)(ds:List AV):Option (List AV)->Prop
 |some olds=>zero.length=sz/\(n+m<=cap->(m=0/\K (E.put d (.arr b off n cap)))\/(xr sz b off cap (E.s b)/\K ({E with s:=setRow E.s b (off+n*sz) ds (E.s b)}.put d (.arr b off (n+m) cap))))/\
   (cap<n+m->(n+m)*bytes<=room/\∀b' cP,E.s b'=none->n+m<=cP->K ({E with s:=E.s.set b' (.cells (olds++ds++(List.replicate (cP -(n+m)) zero).flatten))}.put d (.arr b' 0 (n+m) cP)))
 |none=>False
def eS(sz bytes:Nat)(zero:List AV)(E:St)(d:Option Nat)(K:St->Prop):AV->Option (Nat×List AV)->Prop
 |.arr b off n cap,some (m,ds)=>P3 sz bytes zero E d K b off n cap m ds (oZ E.s sz b off n)
 |_,_=>False
def xI(sz bytes:Nat)(zero:List AV)(E:St)(d:Option Nat)(K:St->Prop):AV->AV->Prop
 |.arr b off n cap,.int .i64 c=>0<=c/\cap<n+c.toNat/\views zero=zero/\P3 sz bytes zero E d K b off n cap c.toNat (List.replicate c.toNat zero).flatten (oZ E.s sz b off n)
 |_,_=>False
def zr(sz:Nat)(E:St)(d:Option Nat)(K:St->Prop):AV->Option (Nat×List AV)->Prop
 |.arr b off n _,some (m,ds)=>(min m n=0/\K (E.put d (.int .i64 0)))\/(xr sz b off n (E.s b)/\K ({E with s:=setRow E.s b off (ds.take (min m n*sz)) (E.s b)}.put d (.int .i64 (min m n:Nat))))
 |_,_=>False
def xT(zero:List AV)(E:St)(d:Option Nat)(K:St->Prop):AV->Prop
 |.arr b off n _=>(n=0/\K (E.put d (.jg [])))\/(xr zero.length b off n (E.s b)/\views zero=zero/\K ({E with s:=setRow E.s b off (List.replicate n zero).flatten (E.s b)}.put d (.jg [])))
 |_=>False
def JP(P:Program)(f:FuncId):Prop:=∀(w:World)(a b:Nat)(oa la ca ob lb cb:Nat)(ta tb:TypeId)(x y:Array Value)(fa:Nat×Nat),a≠b->w.heap[a]? =some (.cells x ta fa)->x.size≠0->w.heap[b]? =some (.cells y tb (0,0))->y.size≠0->
 ∃w',(callFunc f #[.slice (some ⟨a,oa,none⟩) la ca,.slice (some ⟨b,ob,none⟩) lb cb]).run P w=.ok (.value (.bool false)) w'/\w'.heap=w.heap/\w'.os=w.os/\w'.tape=w.tape/\w'.output=w.output/\w.drawn<=w'.drawn
def cellsIn:Option SO->Prop
 |some (.cells (_::_))=>True
 |_=>False
def XP(P:Program)(f:FuncId)(E:St)(d:Option Nat)(K:St->Prop):AV->AV->Prop
 |.sl _ _ (_+1) (_::_),.arr b' _ _ (_+1)=>JP P f/\cellsIn (E.s b')/\K (E.put d (.bool false))
 |_,_=>False
def ye(sz:Nat)(own:Bool)(E:St)(d:Option Nat)(K:St->Prop):AV->Prop
 |.arr b off n cap=>(cap=0/\n=0/\off=0/\K (E.put d (.sl own sz 0 [])))\/(0<cap/\n<=cap/\(own=true->off=0/\xr sz b off cap (E.s b)/\sizeV (off+cap*sz) (E.s b))/\frzK sz own E d K b n (jU n sz off (E.s b)))
 |_=>False
where
 sizeV (k:Nat):Option SO->Prop
  |some (.cells cs)=>cs.length=k
  |_=>False
 frzK (sz:Nat) (own:Bool) (E:St) (d:Option Nat) (K:St->Prop) (b n:Nat):Option (Nat×List AV)->Prop
  |some (_,cs)=>K ({E with s:=E.s.del b}.put d (.sl own sz n cs))
  |none=>False
def WJ(x:IX)(d:Option Nat)(τ:St):St:=match x,d with
 |.t i,some j=>match look τ.e j with
  |.sl _ sz n cs=>τ.put (some i) (.sl false sz n cs)
  |_=>τ
 |_,_=>τ
def Nw(sz:Nat)(own:Bool)(E:St)(d:Option Nat)(K:St->Prop):Option (List AV)->Prop
 |some [a]=>dJ a=true/\ye sz own E d K a
 |_=>False
def kA(off:Nat)(cs:List AV)(k:List AV->AV->Prop):Prop:=match cs[off]? with
 |some (.sl o sz n ds)=>k (setAt cs off [.sl false sz n ds]) (.sl o sz n ds)
 |some (.bb t n ds)=>k (setAt cs off [.sl false 1 n ds]) (.bb t n ds)
 |_=>False
def sN(off:Nat)(cs:List AV)(k:List AV->AV->Prop):Prop:=match cs[off]? with
 |some (.sl o sz n ds)=>k (setAt cs off [.sl false sz n ds]) (.sl o sz n ds)
 |_=>False
def qj(E:St)(d:Option Nat)(K:St->Prop):AV->Prop
 |.ref b off=>match E.s b with
  |some (.cells cs)=>kA off cs fun cs' a=>K ({E with s:=E.s.set b (.cells cs')}.put d a)
  |_=>False
 |.lp i off=>match look E.e i with
  |.loc cs=>d≠some i/\sN off cs fun cs' a=>K ((E.put (some i) (.loc cs')).put d a)
  |_=>False
 |_=>False
def C8(j:IX)(off:Nat)(a:AV):Bool:=match j,a with
 |.t i,.lp i' o=>i'==i&&o==off
 |_,_=>false
def SC(ne:Bool)(E:St)(d:Option Nat)(K:St->Prop):AV->Prop
 |.sl _ _ n _=>∀v:Bool,(v=!ne->n=0)->K (E.put d (.bool v))
 |.arr _ _ _ cap=>∀v:Bool,(v=!ne->cap=0)->K (E.put d (.bool v))
 |_=>False
def Sj(d:Option Nat)(K:St->Prop)(E:St)(b off:Nat):Option SO->Prop
 |some (.cells cs)=>off<cs.length/\K (E.put d (.ref b off))
 |_=>False
def ON(E:St)(d:Option Nat)(K:St->Prop):AV->Prop
 |.ref b off=>Sj d K E b off (E.s b)
 |_=>False
def Lh(t cells off u:Nat):Bool:=liesAt P P.depth t (cells/P.cellsOf t) off u 1
def Si(u:Nat)(d:Option Nat)(K:St->Prop)(E:St)(b off:Nat):Option SO->Prop
 |some (.cells cs)=>∃t,cs[off]? =some (.oy t)/\Lh P t cs.length off u=true/\K (E.put d (.ref b off))
 |_=>False
def OM(u:Nat)(E:St)(d:Option Nat)(K:St->Prop):AV->Prop
 |.ref b off=>Si P u d K E b off (E.s b)
 |_=>False
def af2(f:Nat):Prop:=∀(x:Value)(w:World),(callFunc f #[x]).run P w=.ok (.value x) w
def MC(f:Nat)(E:St)(d:Option Nat)(K:St->Prop)(a:AV):Prop:=dJ a=true/\af2 P f/\K (E.put d (view a))
def Zj(n t j u:Nat)(E:St)(d:Option Nat)(K:St->Prop)(a:AV):Prop:=dJ a=true/\(cellsOf a).length=n/\(cellsOf a)[j]? =some .fN/\(cellsOf a)[j+1]? =some (.bb u 0 [])/\∀b,E.s b=none->K ({E with s:=E.s.set b (.cells (setAt (views (cellsOf a)) j [.oy t,.bb u 0 []]))}.put d (.ref b 0))
def th(t:Nat)(E:St)(x:IX)(d:Option Nat)(K:St->Prop):AV->AV->Prop
 |.bb t' n cs,.sl _ s' m ds=>t=t'/\(s'=1\/m=0)/\(n+m)*1<=room/\K ((E.drain x).put d (.bb t (n+m) (cs++views ds)))
 |.bb t' n cs,.str ds=>t=t'/\(n+ds.length)*1<=room/\K ((E.drain x).put d (.bb t (n+ds.length) (cs++ds.map fun c=>.int .u8 c.toNat)))
 |_,_=>False
def jq(o:sD)(d:Option Nat)(E:St)(K:St->Prop):Prop:=
 match o with
 |.oU _ x=>Ue E x d K (E.x x)
 |.j7 zero=>mf E.lp d=true/\K (E.put d (.loc zero))
 |.ng zero=>∀b,E.s b=none->K ({E with s:=E.s.set b (.cells zero)}.put d (.ref b 0))
 |.JY n x=>mf E.lp d=true/\Zg n E d K (E.x x)
 |.Bg n x=>Zi n E d K (xg true E x)
 |.ie sz n zero parts=>xO sz n E d K (fill (xg true E) zero parts)
 |.store n p v=>Oa n E p v d K (E.x v)
 |.append sz bytes x y=>mF sz bytes E x d K (E.x x) (E.x y)
 |.kO x=>BU E d K (xg true E x)
 |.lO _ bytes zero l c=>yE bytes zero E d K (xg true E l) (xg true E c)
 |.makeMap=>∀b,E.s b=none->K ({E with s:=E.s.set b (.map [])}.put d (.mp b))
 |.call f args=>vR P f E d K (cN (xg true E) args)
 |.jh x args=>wP P E (cN (xg true E) args) d K (xg true E x)
 |.lookup kk zero ok x k=>RG E d K (kJ kk zero ok E.s (xg true E k) (xg true E x))
 |.oE x=>RG E d K (E5 (xg true E x))
 |.vI x=>RG E d K (Ed (xg true E x))
 |.mapUpdate kk x k v=>yF kk E (xg true E k) (xg true E v) d K (xg true E x)
 |.mL sz n zero parts=>zm sz n E d K (fill (xg true E) zero parts)
 |.nD sz bytes zero x y=>eS sz bytes zero E d K (E.x x) (vL E.s sz (E.x y))
 |.pE sz bytes zero x y=>xI sz bytes zero E d K (E.x x) (xg true E y)
 |.AD sz x y=>zr sz E d K (E.x x) (vL E.s sz (E.x y))
 |.tx zero x=>xT zero E d K (E.x x)
 |.VU sz own x=>ye sz own E d (fun τ=>K (WJ x d τ)) (E.x x)
 |.AX sz own x=>Nw sz own E d K (rd E (xg true E x) 1)
 |.nv x=>qj E d K (E.x x)
 |.nw off j x=>C8 j off (E.x x)=true/\qj E d K (E.x x)
 |.ZB ne x=>SC ne E d K (E.x x)
 |.Z9 f x y=>XP P f E d K (E.x x) (E.x y)
 |.ux sz n p v=>PN sz n E p v d K (E.x v)
 |.JZ sz n x=>Zh sz n E d K (E.x x)
 |.J0 n t j u x=>Zj n t j u E d K (E.x x)
 |.pD t x y=>th t E x d K (E.x x) (E.x y)
 |.Ki x=>ON E d K (E.x x)
 |.Ay f x=>MC P f E d K (E.x x)
 |.Kh u x=>OM P u E d K (E.x x)
 |.xQ f i args=>aaB i E (fun τ=>vR P f τ d K (cN (xg true τ) args)) (look E.e i)
 |_=>False
def cq(E:St):AV->Option Nat->St
 |.lp t _,some i=>{E with lp:=(i,t)::E.lp}
 |.when _ a,d=>cq E a d
 |_,_=>E
def Z3(o:sD)(E:St)(d:Option Nat)(K:St->Prop):PR->Prop
 |.da a=>K ((cq E a d).put d a)
 |.prt c a=>c/\K ((cq E a d).put d a)
 |.no=>jq P o d E K
def owp(o:sD)(d:Option Nat)(E:St)(K:St->Prop):Prop:=Z3 P o E d K (pv o (xg true E) E)
def RF(g:Bool)(o:sD)(E:St)(d:Option Nat)(K:St->Prop):PR->Prop
 |.da a=>K ((cq E a d).put d (.when g a))
 |.prt c a=>(g=true->c)/\K ((cq E a d).put d (.when g a))
 |.no=>(g=true->owp P o d E K)/\(g=false->K (E.put d (.jg [])))
def zz(o:sD)(d:Option Nat)(t:Nat)(want:Bool)(E:St)(K:St->Prop):AV->Prop
 |.bool b=>RF P (b==want) o E d K (pv o (xg (b==want) E) E)
 |.when b' (.bool b)=>RF P (b'&&(b==want)) o E d K (pv o (xg (b'&&(b==want)) E) E)
 |.jg []=>K (E.put d (.jg []))
 |_=>False
def Mi(o:ar)(E:St)(K:St->Prop):Prop:=
 match o.g with
 |none=>owp P o.op o.dst E K
 |some (t,want)=>zz P o.op o.dst t want E K (look E.e t)
def swp:List ar->St->(St->Prop)->Prop
 |[],E,K=>K E
 |o::r,E,K=>Mi P o E (fun τ=>swp r τ K)
def ahA(r:List ar)(K:St->Prop)(τ:St):Prop:=swp P r τ K
def bI:AV->Bool
 |.loc _=>false
 |_=>true
def VG(g:Bool):PR->PR
 |.da a=>.da (.when g a)
 |.prt c a=>.prt (g=true->c) (.when g a)
 |.no=>.no
def rdO:sD->Bool
 |.ks _ _ _=>true
 |_=>false
def YR(r g:Bool):PR->PR
 |.da a=>.da (.when g a)
 |.prt c a=>.prt (g=true->c) (.when g a)
 |.no=>bif r then .prt (g=false) (.when g .undef)else .no
def NT(o:sD)(want:Bool)(E:St):AV->PR
 |.bool b=>YR (rdO o) (b==want) (pv o (xg (b==want) E) E)
 |.when g (.bool b)=>YR (rdO o) (g&&(b==want)) (pv o (xg (g&&(b==want)) E) E)
 |_=>.no
def qv(o:ar)(E:St):PR:=match o.g with
 |none=>pv o.op (xg true E) E
 |some (t,want)=>NT o.op want E (look E.e t)
def qK(E:St)(d:Option Nat)(K:St->Prop):PR->Prop
 |.da a=>bI a=true/\K ((cq E a d).put d a)
 |.prt c a=>c/\bI a=true/\K ((cq E a d).put d a)
 |.no=>False
def UP(f:Nat)(E:St)(d:Option Nat)(K:St->Prop):Option (List AV)->Prop
 |some as=>∃rs,ke rs=true/\FE P f as E.s rs E.s/\K (E.put d (fQ rs))
 |none=>False
def Pz(f:Nat)(first fF:List AV)(E:St)(d:Option Nat)(K:St->Prop):Option (List AV)->Prop
 |some as=>sS P f=true/\∃rs,ke rs=true/\FE P f (first++as++fF) E.s rs E.s/\K (E.put d (fQ rs))
 |none=>False
def UQ(E:St)(args:Option (List AV))(d:Option Nat)(K:St->Prop):AV->Prop
 |.fn f first fF=>Pz P f first fF E d K args
 |_=>False
def callee(x:IX)(args:List IX)(g:Bool)(E:St)(f:Nat)(as:List AV):Prop:=∃first fF xs,xg g E x=.fn f first fF/\cN (xg g E) args=some xs/\as=first++xs++fF
def IW(x:IX)(args:List IX)(want:Bool)(E:St)(d:Option Nat)(K:St->Prop):AV->Prop
 |.bool b=>∃rs,ke rs=true/\((b==want)=true->∃f as,callee x args (b==want) E f as/\sS P f=true/\FE P f as E.s rs E.s)/\K (E.put d (.when (b==want) (fQ rs)))
 |.when g (.bool b)=>∃rs,ke rs=true/\((g&&(b==want))=true->∃f as,callee x args (g&&(b==want)) E f as/\sS P f=true/\FE P f as E.s rs E.s)/\K (E.put d (.when (g&&(b==want)) (fQ rs)))
 |_=>False
def IV(f:Nat)(args:List IX)(want:Bool)(E:St)(d:Option Nat)(K:St->Prop):AV->Prop
 |.bool b=>∃rs,ke rs=true/\((b==want)=true->∃as,cN (xg (b==want) E) args=some as/\FE P f as E.s rs E.s)/\K (E.put d (.when (b==want) (fQ rs)))
 |.when g (.bool b)=>∃rs,ke rs=true/\((g&&(b==want))=true->∃as,cN (xg (g&&(b==want)) E) args=some as/\FE P f as E.s rs E.s)/\K (E.put d (.when (g&&(b==want)) (fQ rs)))
 |_=>False
def aky(E:St)(d:Option Nat)(K:St->Prop):AV->Prop
 |.sl _ sz _ cs=>sz=1/\∃s:List UInt8,cs=(s.map fun c=>.int .u8 c.toNat)/\K (E.put d (.str s))
 |_=>False
def Wf:AV->PR
 |.str s=>.da (.sl (agI s) 1 s.length (s.map fun c=>.int .u8 c.toNat))
 |_=>.no
def G8(sz n:Nat):Option (List AV)->PR
 |some cs=>.prt (cs.length=n*sz) (.sl true sz n cs)
 |none=>.no
def qe(f:IX->AV)(s:ae):sD->PR
 |.ie sz n zero parts=>G8 sz n (fill f zero parts)
 |.lookup kk zero ok x k=>kJ kk zero ok s (f k) (f x)
 |.oE x=>E5 (f x)
 |.vI x=>Ed (f x)
 |_=>.no
def RH(o:sD)(want:Bool)(E:St):AV->PR
 |.bool b=>VG (b==want) (qe (xg (b==want) E) E.s o)
 |.when g (.bool b)=>VG (g&&(b==want)) (qe (xg (g&&(b==want)) E) E.s o)
 |_=>.no
def E1(o:ar)(E:St):PR:=match o.g with
 |none=>qe (xg true E) E.s o.op
 |some (t,want)=>RH o.op want E (look E.e t)
def q1(o:ar)(E:St)(K:St->Prop):Prop:=
 match o with
 |⟨d,.call f args,none⟩=>UP P f E d K (cN (xg true E) args)
 |⟨d,.oU true x,none⟩=>Ue E x d K (E.x x)
 |⟨d,.call f args,some (t,want)⟩=>IV P f args want E d K (look E.e t)
 |⟨d,.jh x args,none⟩=>UQ P E (cN (xg true E) args) d K (xg true E x)
 |⟨d,.jh x args,some (t,want)⟩=>IW P x args want E d K (look E.e t)
 |⟨d,.ie sz n zero parts,g⟩=>qK E d K (E1 ⟨d,.ie sz n zero parts,g⟩ E)
 |⟨d,.lookup kk zero ok x k,g⟩=>qK E d K (E1 ⟨d,.lookup kk zero ok x k,g⟩ E)
 |⟨d,.oE x,g⟩=>qK E d K (E1 ⟨d,.oE x,g⟩ E)
 |⟨d,.vI x,g⟩=>qK E d K (E1 ⟨d,.vI x,g⟩ E)
 |o=>qK E o.dst K (qv o E)
def bg(E:St):Option Nat->Bool
 |some d=>bI (look E.e d)
 |none=>true
def qwp:Nat->List ar->St->(St->Prop)->Prop
 |0,l,E,K=>swp P l E K
 |_+1,[],E,K=>K E
 |q+1,o::r,E,K=>bg E o.dst=true/\q1 P o E (fun τ=>qwp q r τ K)
def ahh(q:Nat)(r:List ar)(K:St->Prop)(τ:St):Prop:=qwp P q r τ K
def mS(c:Nat):AV->Bool
 |.lp t _=>!Nat.beq t c
 |.when _ v=>mS c v
 |_=>true
def xi:List Nat->AV->Bool
 |[],_=>true
 |c::T,a=>mS c a&&xi T a
def ku(T:List Nat):List (Nat×AV)->Bool
 |[]=>true
 |p::e=>xi T p.2&&ku T e
def aam(n:Nat)(E:St)(c:Nat)(x:IX)(K:St->Prop):AV->Prop
 |.loc fX=>fX.length=n/\dJ (E.x x)=true/\(bB (E.x x)).length=n/\K ((E.drain x).put (some c) (.loc (bB (E.x x))))
 |_=>False
def q2(o:ar)(E:St)(K:St->Prop):Prop:=
 match o with
 |⟨none,.store n (.t c) x,none⟩=>aam n E c x K (look E.e c)
 |⟨some d,.j7 z,none⟩=>bI (look E.e d)=true/\mf E.lp (some d)=true/\K (E.put (some d) (.loc z))
 |⟨some d,.append sz bytes x y,none⟩=>bI (look E.e d)=true/\mF sz bytes E x (some d) K (E.x x) (E.x y)
 |⟨some d,.nw off (.t i) x,none⟩=>bI (look E.e d)=true/\C8 (.t i) off (E.x x)=true/\qj E (some d) K (E.x x)
 |⟨_,.store _ _ _,_⟩=>False
 |⟨_,.j7 _,_⟩=>False
 |⟨_,.append _ _ _ _,_⟩=>False
 |⟨_,.nw _ _ _,_⟩=>False
 |o=>bg E o.dst=true/\q1 P o E K
def E2(T:List Nat):Nat->List ar->St->(St->Prop)->Prop
 |0,l,E,K=>swp P l E K
 |_+1,[],E,K=>K E
 |q+1,o::r,E,K=>q2 P o E (fun τ=>ku T τ.e=true/\E2 T q r τ K)
def aao(T:List Nat)(q:Nat)(r:List ar)(K:St->Prop)(τ:St):Prop:=ku T τ.e=true/\E2 P T q r τ K
def oY:AV->Bool
 |.ref _ _=>false
 |.when _ a=>oY a
 |_=>true
def mV(o:ar)(E:St):Bool:=match o.op with
 |.load _ _ x=>oY (E.x x)
 |.ks _ _ _=>false
 |.nx _ _=>false
 |.lookup _ _ _ _ _=>false
 |.call _ _=>false
 |.jh _ _=>false
 |.len c _=>!Nat.beq c 2
 |_=>true
def zl(f:Nat)(s:ae)(C:AV->ae->Prop):Option (List AV)->Prop
 |some args=>FN P f args s (fun rs s'=>ke rs=true/\C (fQ rs) s')
 |none=>False
def J1(f:Nat)(first fF:List AV)(s:ae)(C:AV->ae->Prop):Option (List AV)->Prop
 |some args=>sS P f=true/\FN P f (first++args++fF) s (fun rs s'=>ke rs=true/\C (fQ rs) s')
 |none=>False
def uH(args:Option (List AV))(s:ae)(C:AV->ae->Prop):AV->Prop
 |.fn f first fF=>J1 P f first fF s C args
 |_=>False
def tu(bytes:Nat)(zero:List AV)(s:ae)(C:AV->ae->Prop):AV->AV->Prop
 |.int _ l,.int _ c=>0<=l/\l<=c/\c*bytes<=room/\∀b,s b=none->C (.arr b 0 l.toNat c.toNat) (s.set b (.cells ((List.replicate c.toNat zero).flatten)))
 |_,_=>False
def aff(n:Nat)(s:ae)(C:AV->ae->Prop)(a:AV):Prop:=dJ a=true/\(cellsOf a).length=n/\∀b,s b=none->C (.ref b 0) (s.set b (.cells (views (cellsOf a))))
def Oy(b off:Nat)(news:List AV)(s:ae)(C:AV->ae->Prop):Option SO->Prop
 |some (.cells fX)=>off+news.length<=fX.length/\C (.jg []) (s.set b (.cells (setAt fX off news)))
 |_=>False
def Ls:AV->Bool
 |.sl true _ _ _=>false
 |.bb _ _ _=>false
 |_=>true
def pF(n:Nat)(s:ae)(C:AV->ae->Prop)(v:AV):AV->Prop
 |.ref b off=>dJ v=true/\Ls v=true/\(bB v).length=n/\Oy b off (bB v) s C (s b)
 |_=>False
def My(kk:ny)(b:Nat)(s:ae)(k v:AV)(C:AV->ae->Prop):Option SO->Prop
 |some (.map es)=>(dJ v=true/\gI kk k=true/\oQ kk es=true)/\C (.jg []) (s.set b (.map (yU (view k) (view v) es)))
 |_=>False
def FX(kk:ny)(s:ae)(k v:AV)(C:AV->ae->Prop):AV->Prop
 |.mp b=>My kk b s k v C (s b)
 |_=>False
def uI(b off:Nat)(s:ae)(C:AV->ae->Prop):Option SO->Prop
 |some (.cells cs)=>kA off cs fun cs' a=>C a (s.set b (.cells cs'))
 |_=>False
def ox(s:ae)(C:AV->ae->Prop):AV->Prop
 |.ref b off=>uI b off s C (s b)
 |_=>False
def sR(o:sD)(E:St)(C:AV->ae->Prop):Prop:=match o with
 |.call f args=>zl P f E.s C (cN (xg true E) args)
 |.jh x args=>uH P (cN (xg true E) args) E.s C (xg true E x)
 |.lO _ bytes zero l c=>tu bytes zero E.s C (xg true E l) (xg true E c)
 |.makeMap=>∀b,E.s b=none->C (.mp b) (E.s.set b (.map []))
 |.ng zero=>∀b,E.s b=none->C (.ref b 0) (E.s.set b (.cells zero))
 |.Bg n x=>aff n E.s C (xg true E x)
 |.store n p v=>pF n E.s C (E.x v) (E.x p)
 |.mapUpdate kk x k v=>FX kk E.s (xg true E k) (xg true E v) C (xg true E x)
 |.nv x=>ox E.s C (E.x x)
 |_=>False
def RQ(E:St)(d:Option Nat)(K:St->Prop)(a:AV)(s':ae):Prop:=K ({E with s:=s'}.put d a)
def VQ(o:ar)(E:St)(K:St->Prop):Prop:=match o.g with
 |none=>bg E o.dst=true/\sR P o.op E (RQ E o.dst K)
 |some _=>False
def Mh(T:List Nat):List (Nat×Nat×ar)->St->(St->Prop)->Prop
 |[],E,K=>K E
 |(0,_,o)::r,E,K=>q2 P o E (fun τ=>ku T τ.e=true/\Mh T r τ K)
 |(1,_,o)::r,E,K=>mV o E=true/\q2 P o E (fun τ=>ku T τ.e=true/\Mh T r τ K)
 |(2,_,o)::r,E,K=>VQ P o E (fun τ=>ku T τ.e=true/\Mh T r τ K)
 |(_+3,_,o)::r,E,K=>Mi P o E (fun τ=>ku T τ.e=true/\Mh T r τ K)
def RW(T:List Nat)(r:List (Nat×Nat×ar))(K:St->Prop)(τ:St):Prop:=ku T τ.e=true/\Mh P T r τ K
def vN:List Bool->List Bool->Bool
 |d::r,x::s=>(!d||x)&&vN r s
 |_,_=>true
def xA:List Bool->List Bool->List Bool
 |[],s=>s
 |x::p,s=>xA p (x::s)
def Ol(done:List Bool):List (List Bool)->List Bool->List Bool->List ar->(ar->List Bool->Prop)->Prop
 |row::rows,pre,x::xs,o::r,F=>(bif !x&&vN row done then F o (xA pre (true::xs))else True)/\Ol done rows (x::pre) xs r F
 |_,_,_,_,_=>True
def xz:List ar->List Bool
 |[]=>[]
 |_::r=>false::xz r
def Rw(iH:List (List Bool))(ops:List ar)(K:St->Prop):List ar->List Bool->St->Prop
 |[],_,E=>K E
 |_::f,done,E=>Ol done iH [] done ops (fun o d=>Mi P o E (fun τ=>Rw iH ops K f d τ))
def ah0(iH:List (List Bool))(ops:List ar)(K:St->Prop)(f:List ar)(done:List Bool)(τ:St):Prop:=Rw P iH ops K f done τ
def Ac(live:List Nat)(Q:Exit->St->Prop)(τ:St):Prop:=Q .normal (τ.xb live)
def P8(id:Nat)(Q:Exit->St->Prop):Exit->St->Prop
 |.exit i,τ=>bif i==id then Q .normal τ else Q (.exit i) τ
 |x,τ=>Q x τ
def GH(live:List (Nat×Bool))(I:St->Prop)(μ:St->Nat)(m:Nat)(Q:Exit->St->Prop):Exit->St->Prop
 |.normal,ρ=>I (ρ.fu live)/\μ (ρ.fu live)<m
 |x,ρ=>Q x ρ
def pK(live:List (Nat×Bool))(J:St->Prop)(Q:Exit->St->Prop):Exit->St->Prop
 |.normal,ρ=>J (ρ.fu live)
 |x,ρ=>Q x ρ
def I7(live:List (Nat×Bool))(I:St->Prop)(Q:Exit->St->Prop):Exit->St->Prop
 |.normal,ρ=>I (ρ.fu live)
 |.goto _,_=>False
 |x,ρ=>Q x ρ
def It(l:Nat)(live:List (Nat×Bool))(I:St->Prop)(Q:Exit->St->Prop):Exit->St->Prop
 |.goto l',ρ=>l'=l/\I (ρ.fu live)
 |x,ρ=>Q x ρ
def fW:IC->(Exit->St->Prop)->St->Prop
 |.skip,Q,E=>Q .normal E
 |.Er q ops live,Q,E=>match q with
  |none=>swp P ops E (Ac live Q)
  |some q=>qwp P q ops E (Ac live Q)
 |.U0 T q ops live,Q,E=>ku T E.e=true/\E2 P T q ops E (Ac live Q)
 |.Q3 T l live,Q,E=>ku T E.e=true/\Mh P T l E (Ac live Q)
 |.Yh iH ops live,Q,E=>Rw P iH ops (Ac live Q) ops (xz ops) E
 |.seq a b,Q,E=>fW a (fun x τ=>match x with|.normal=>fW b Q τ|x=>Q x τ) E
 |.cond c a b,Q,E=>match E.x c with
  |.bool v=>(v=true->fW a Q E)/\(v=false->fW b Q E)
  |_=>False
 |.block id b,Q,E=>fW b (P8 id Q) E
 |.loop live b,Q,E=>∃(I:St->Prop)(μ:St->Nat),I (E.fu live)/\∀τ,I τ->fW b (GH live I μ (μ τ) Q) τ
 |.join live a b,Q,E=>∃J:St->Prop,fW a (pK live J Q) E/\∀τ,J τ->fW b Q τ
 |.exit id,Q,E=>Q (.exit id) E
 |.scope b,Q,E=>fW b (fun x τ=>match x with|.goto _=>False|x=>Q x τ) E
 |.DV l live a1 a2 a3 r,Q,E=>
  let K:=I7 live (fun ρ=>∃(I:St->Prop)(μ:St->Nat),I ρ/\∀τ,I τ->fW r (It l live (fun ρ'=>I ρ'/\μ ρ'<μ τ) Q) τ) Q
  fW a1 (fun x τ=>match x with|.normal=>fW a2 (fun x τ=>match x with|.normal=>fW a3 K τ|x=>K x τ) τ|x=>K x τ) E
 |.label _,Q,E=>Q .normal E
 |.goto l,Q,E=>Q (.goto l) E
 |.ret,Q,E=>Q .ret E
 |.dead,_,_=>False
def VV(l:Nat)(live:List (Nat×Bool))(r:IC)(Q:Exit->St->Prop)(ρ:St):Prop:=∃(I:St->Prop)(μ:St->Nat),I ρ/\∀τ,I τ->fW P r (It l live (fun ρ'=>I ρ'/\μ ρ'<μ τ) Q) τ
def BL(b:IC)(Q:Exit->St->Prop):Exit->St->Prop
 |.normal,τ=>fW P b Q τ
 |x,τ=>Q x τ
def xw(Q:Exit->St->Prop):Exit->St->Prop
 |.goto _,_=>False
 |x,τ=>Q x τ
def OJ(a b:IC)(Q:Exit->St->Prop)(E:St):AV->Prop
 |.bool v=>(v=true->fW P a Q E)/\(v=false->fW P b Q E)
 |_=>False
end
end Go.AB
end
