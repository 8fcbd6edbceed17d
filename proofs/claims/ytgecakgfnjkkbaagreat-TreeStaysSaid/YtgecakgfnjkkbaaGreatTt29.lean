/- A part. -/
import Derived.Test.YtgecakgfnjkkbaaGreatTt28
import Derived.Test.YtgecakgfnjkkbaaGreatRows
import Derived.JoinedCond
import Derived.Carry
set_option linter.defProp false
set_option linter.unusedSimpArgs false
set_option linter.unusedVariables false
section
namespace Go.AB
open Go Go.ChangeShapes Go.WideShapes Go.ChangeAt Go.RowKit Go.Proofs.YtgecakgfnjkkbaaGreat Go.Proofs
open Go.Proofs.Tryz (prog)
def Me(x:aj):Prop:=(-9223372036854775808<=x.aS/\x.aS<=9223372036854775807)/\(-9223372036854775808<=x.To/\x.To<=9223372036854775807)/\True
def Uu:Au prog 73 aj Me:=
 kM.map (yO (L:=[(3,0),(3,1)]) B_ B_ (pN (ri (P:=prog) (t:=3) B_) B_ (pN (ri (P:=prog) (t:=3) B_) B_ Dx)))
  (fun p=>⟨p.1,p.2.1⟩) (fun p=>by first|rfl|(simp only[ji,oA];rfl)) (fun _ h=>h)
def Us:kM prog 24 1 (fun l:List Int=>[.sl false 1 l.length (flat l)]) (fun l=>l.length<=maxLen/\∀a∈l,(-9223372036854775808<=a/\a<=9223372036854775807)):=yP B_ B_ (ri (P:=prog) (t:=3) B_)
def Ei(x:jP):Prop:=(x.df.length<=maxLen/\∀a∈x.df,(-9223372036854775808<=a/\a<=9223372036854775807))/\(-9223372036854775808<=x.nA/\x.nA<=9223372036854775807)/\True
def Ut:Au prog 26 jP Ei:=
 kM.map (yO (L:=[(24,0),(3,1)]) B_ B_ (pN Us B_ (pN (ri (P:=prog) (t:=3) B_) B_ Dx)))
  (fun p=>⟨p.1,p.2.1⟩) (fun p=>by first|rfl|(simp only[ji,xS];rfl)) (fun _ h=>h)
def ae7{w:World}{R:Nat->Nat}{a0 a1 a2 a3:AV}{v0 v1 v2 v3:Value}(h0:VR w R a0 v0)(h1:VR w R a1 v1)(h2:VR w R a2 v2)(h3:VR w R a3 v3):lY w R [a0,a1,a2,a3] #[v0,v1,v2,v3]:=⟨rfl,fun j a v k1 k2=>by match j,k1,k2 with|0,k1,k2=>(cases k1;cases k2;exact h0)|1,k1,k2=>(cases k1;cases k2;exact h1)|2,k1,k2=>(cases k1;cases k2;exact h2)|3,k1,k2=>(cases k1;cases k2;exact h3)⟩
def vF:ownKnob Tryz.prog.godebug=none:=B_
def tU:laidOutB Tryz.prog=true:=B_
def xe:Tryz.prog.underlying 4=some .bool:=B_
set_option maxRecDepth 100000 in
def vE{H:Type}{enc:TypeId×Value->H}{W:World}{base:Nat}{args:Array Value}{ds gs:List (DataW H)}{before:List MemPlace}
 (af1:∀(j:Nat) t v,Tryz.f5.params[j]? =some t->args[j]? =some v->Value.okWide Tryz.prog W .any base t v)
 (hW:DataW.Whole enc Tryz.prog Tryz.f5.params.toList Rows.treeStaysSpec.vars false W args.toList ds gs before):
 Calls Tryz.prog 5 args W fun e w'=>e=.returned (.bool true)/\Below W.heap.size W w':=by
 obtain⟨p,q,hA0,hV,rfl,hfz,hnd⟩:=hW
 have px:=af1
 have hA:DataW.TrodAll enc Tryz.prog W 0 (fun _=>true) true Tryz.f5.params.toList args.toList ds p:=hA0
 have hp:Tryz.f5.params= #[22,23,26,3]:=B_
 rw[hp]at hA px
 obtain⟨v0,v1,v2,v3,d0,d1,d2,d3,p0,p1,p2,p3,rfl,rfl,rfl,h0,h1,h2,h3⟩:=trodAll_four hA
 obtain⟨x0,w0,N0,k0⟩:=Lw B_ B_ (Uv (P:=prog) (t:=5) B_) h0 (okWide_slice (e:=5) B_ (px 0 22 v0 rfl rfl))
 obtain⟨x1,w1,N1,k1⟩:=Lw B_ B_ Uu h1 (okWide_slice (e:=73) B_ (px 1 23 v1 rfl rfl))
 obtain⟨x2,w2,N2,k2⟩:=Uq (.inl (HY (L:=[(24,0),(3,1)]) B_)) Ut (px 2 26 v2 rfl rfl) h2
 obtain⟨x3,w3,N3,k3⟩:=Ur B_ (px 3 3 v3 rfl rfl) h3
 refine Ns (max N0 (max N1 (max N2 N3))) ?_ (ae7 (k0 _ AT) (k1 _ AT) (k2 _ AT) (k3 _ AT))
 exact(xd (tV x0 x1 x2 x3)).app rfl
end Go.AB
namespace Go.Proofs.YtgecakgfnjkkbaaGreat
open Go.ChangeShapes Go.WideShapes Go.ChangeAt Go.RowKit
set_option maxRecDepth 100000 in
theorem Aq(os:Os)(started:os.Started)(H:Type)(enc:TypeId×Value->H):
 ReturnsInHanded {} Tryz.checked os 5 .any (Rows.treeStaysSpec.pre6 enc Tryz.prog Tryz.f5 Rows.treeStaysRow.domain false) (Rows.treeStaysSpec.post enc Tryz.prog Tryz.f5 false true false false):=by
 refine returnsInHanded_of_change (C:=Tryz.checked) AB.vF started (by kernel_rfl) Tryz.func5
  (ChangeSpec.witness6 (enc:=enc) (C:=Tryz.checked) false ⟨#[],#[.slice none 0 0,.slice none 0 0,.agg #[.slice none 0 0,.int .i64 0],.int .i64 0],[]⟩ 8 (by kernel_rfl) (by kernel_rfl) (by kernel_rfl) (by kernel_rfl)) ?_
 intro W base args ds gs before px hW _ _
 exact AB.TX rfl (by kernel_rfl) AB.xe AB.tU (of_decide_eq_true (by kernel_rfl)) (fun ds h=>by
  match ds,h with
  |[_,_,_,_],_=>rfl) hW (AB.vE px hW)
theorem fZ{a b:Bool}(h:a=true)(k:b=true):(a&&b)=true:=by rw[h,k];rfl
theorem Jl:(Rows.treeStaysRow.wf (OpenSpec.ofChange Rows.treeStaysSpec))=true:=by kernel_rfl
theorem Jm:(laidOutB Tryz.checked.prog)=true:=by kernel_rfl
theorem Jn:(mapsRowed Tryz.checked.prog)=true:=by kernel_rfl
theorem Jo:(Tryz.f5.params.all (Tryz.checked.prog.readableRec ·))=true:=by kernel_rfl
theorem Jp:(namedTie Tryz.checked.prog Rows.treeStaysRow.named Rows.treeStaysSpec.vars)=true:=by kernel_rfl
theorem Jq:((Rows.treeStaysRow.stops==[]))=true:=by kernel_rfl
theorem Jr:((Tryz.checked.prog.stops==[]))=true:=by kernel_rfl
theorem Js:((Rows.treeStaysRow.knobs==[]))=true:=by kernel_rfl
theorem Jt:((Tryz.checked.prog.stopKnobs==[]))=true:=by kernel_rfl
theorem Ju:((Rows.treeStaysRow.inPlace==Tryz.checked.prog.inPlace 5))=true:=by kernel_rfl
theorem Ff:((Rows.treeStaysRow.unfollowed==Tryz.checked.prog.unfollowed 5))=true:=by kernel_rfl
theorem Fg:((Rows.treeStaysRow.recurses==Tryz.checked.prog.recurses 5))=true:=by kernel_rfl
theorem Fh:((Rows.treeStaysRow.named==Tryz.checked.prog.varsNamed 5))=true:=by kernel_rfl
theorem Fi:((Rows.treeStaysRow.maps==(Tryz.f5.params.toList++Rows.treeStaysSpec.plain.varTypes Tryz.checked.prog).any (Tryz.checked.prog.mapsRec ·)))=true:=by kernel_rfl
theorem Fj:((Rows.treeStaysRow.ifaces==(Tryz.f5.params.toList++Rows.treeStaysSpec.plain.varTypes Tryz.checked.prog).any (Tryz.checked.prog.ifacesRec ·)))=true:=by kernel_rfl
theorem Fk:((Rows.treeStaysRow.mapsOut==Tryz.checked.prog.mapsAmong Tryz.f5.resultTypes.toList))=true:=by kernel_rfl
theorem Fm:((Rows.treeStaysRow.loops==(Tryz.f5.params.toList++Rows.treeStaysSpec.plain.varTypes Tryz.checked.prog).any (Tryz.checked.prog.loopsFrom ·)))=true:=by kernel_rfl
theorem Fo:((Rows.treeStaysRow.wideKeys==(Tryz.f5.params.toList++Rows.treeStaysSpec.plain.varTypes Tryz.checked.prog++Tryz.f5.resultTypes.toList).any (Tryz.checked.prog.wideKeysFrom ·)))=true:=by kernel_rfl
theorem Fp:(Rows.treeStaysSpec.vars.all (Tryz.checked.prog.varReadable ·))=true:=by kernel_rfl
theorem Fs:(Tryz.f5.resultTypes.all (fun t=>Tryz.checked.prog.readableRec t&&decide (t<Tryz.checked.prog.types.size)))=true:=by kernel_rfl
theorem Ft:((Rows.treeStaysRow.ifacesOut==Tryz.f5.resultTypes.toList.any (Tryz.checked.prog.ifacesRec ·)))=true:=by kernel_rfl
theorem Fu:((Rows.treeStaysRow.loopsOut==Tryz.f5.resultTypes.toList.any (Tryz.checked.prog.loopsFrom ·)))=true:=by kernel_rfl
theorem Fv:((Rows.treeStaysRow.plainKeys==Tryz.checked.prog.plainKeys))=true:=by kernel_rfl
theorem Fw:(Rows.treeStaysRow.shortTexts.isNone)=true:=by kernel_rfl
theorem Fx:(Tryz.checked.prog.stopsHeard)=true:=by kernel_rfl
theorem Fy:(Tryz.checked.prog.mayEnter)=true:=by kernel_rfl
theorem Fz:((Rows.treeStaysRow.lifted==Tryz.checked.prog.liftsFinal))=true:=by kernel_rfl
theorem FA:((Tryz.checked.prog.make==some Rows.treeStaysRow.make))=true:=by kernel_rfl
theorem FB:((Rows.treeStaysRow.kinds==(if Rows.treeStaysRow.domain.isEmpty then[]else Tryz.f5.params.toList.map fun t=>match Tryz.checked.prog.underlying t with|some (.int k)=>some k|_=>none)))=true:=by kernel_rfl
theorem FD:((Rows.treeStaysRow.pinned==Rows.treeStaysRow.pinnedBy))=true:=by kernel_rfl
theorem FG:((Rows.treeStaysRow.veiled==(Tryz.f5.params.toList++Rows.treeStaysSpec.plain.varTypes Tryz.checked.prog++Tryz.f5.resultTypes.toList).any (Tryz.checked.prog.veiledRec ·)))=true:=by kernel_rfl
theorem FH:(Rows.treeStaysRow.veiledFits Tryz.checked.prog Tryz.f5.params.toList (Tryz.f5.params.toList++Rows.treeStaysSpec.plain.varTypes Tryz.checked.prog++Tryz.f5.resultTypes.toList))=true:=by kernel_rfl
set_option maxRecDepth 100000 in
theorem Ap:joinedFacts Tryz.checked.prog 5 Tryz.f5 Rows.treeStaysSpec Rows.treeStaysRow=true:=(fZ (fZ (fZ (fZ (fZ (fZ (fZ (fZ (fZ (fZ (fZ (fZ (fZ (fZ (fZ (fZ (fZ (fZ (fZ (fZ (fZ (fZ (fZ (fZ (fZ (fZ (fZ (fZ (fZ (fZ (fZ Jl Jm) Jn) Jo) Jp) Jq) Jr) Js) Jt) Ju) Ff) Fg) Fh) Fi) Fj) Fk) Fm) Fo) Fp) Fs) Ft) Fu) Fv) Fw) Fx) Fy) Fz) FA) FB) FD) FG) FH)
theorem treeStays_holds:Rows.TreeStaysSaid:=
 OpenClaim.holds_of_wide 5 Tryz.f5 rfl rfl rfl rfl rfl rfl rfl ⟨rfl,rfl,rfl,rfl,rfl⟩ rfl rfl rfl rfl rfl (by kernel_rfl) Tryz.func5 Ap
  (of_decide_eq_true (by kernel_rfl)) (by unfold Func.isWrapper;first|(rw[if_pos (by decide+kernel)];kernel_rfl)|(rw[if_neg (by decide+kernel)];exact⟨rfl,rfl⟩))
  (fun os started H enc _=>Aq os started H enc)
end Go.Proofs.YtgecakgfnjkkbaaGreat
end
