/- A part. -/
import Derived.Test.YtgecakgfnjkkbaaGreatRt28
import Derived.Test.YtgecakgfnjkkbaaGreatRows
import Derived.JoinedCond
import Derived.Carry
set_option linter.defProp false
set_option linter.unusedSimpArgs false
set_option linter.unusedVariables false
section
namespace Go.AB
open Go Go.ChangeShapes Go.WideShapes Go.ChangeAt Go.RowKit Go.Proofs.YtgecakgfnjkkbaaGreat Go.Proofs
open Go.Proofs.Tryz (prog)
def MA(x:aj):Prop:=(-9223372036854775808<=x.aP/\x.aP<=9223372036854775807)/\(-9223372036854775808<=x.To/\x.To<=9223372036854775807)/\True
def Va:vP prog 73 aj MA:=
 ki.map (sj (L:=[(3,0),(3,1)]) By By (jK (mz (P:=prog) (t:=3) By) By (jK (mz (P:=prog) (t:=3) By) By xj)))
  (fun p=>⟨p.1,p.2.1⟩) (fun p=>by first|rfl|(simp only[fD,oS];rfl)) (fun _ h=>h)
def LV:ki prog 24 1 (fun l:List Int=>[.sl false 1 l.length (flat l)]) (fun l=>l.length<=maxLen/\∀a∈l,(-9223372036854775808<=a/\a<=9223372036854775807)):=yQ By By (mz (P:=prog) (t:=3) By)
def EM(x:jM):Prop:=(x.da.length<=maxLen/\∀a∈x.da,(-9223372036854775808<=a/\a<=9223372036854775807))/\(-9223372036854775808<=x.pN/\x.pN<=9223372036854775807)/\True
def U7:vP prog 26 jM EM:=
 ki.map (sj (L:=[(24,0),(3,1)]) By By (jK LV By (jK (mz (P:=prog) (t:=3) By) By xj)))
  (fun p=>⟨p.1,p.2.1⟩) (fun p=>by first|rfl|(simp only[fD,xW];rfl)) (fun _ h=>h)
inductive lY:aa->Prop where
 |mk (x:aa) (h1:-9223372036854775808<=x.Kind/\x.Kind<=9223372036854775807) (h2:-9223372036854775808<=x.N/\x.N<=9223372036854775807) (h3:x.S.b.length<=maxLen) (h4:x.L.length<=maxLen) (h5:∀v∈x.L,lY v):lY x
def U8:vP prog 32 aa lY:=by
 refine gO.all fun K=>?_
 induction K using Nat.strongRecOn with|ind K ih=>
 cases K with
 |zero=>exact gO.zero
 |succ K=>
  have hs:gO K prog 30 1 (fun l:List aa=>[.sl false 4 l.length (flat l)]) (fun l=>l.length<=maxLen/\∀a∈l,lY a):=by
   cases K with
   |zero=>exact gO.zero
   |succ k=>exact yP By By (ih k AT)
  exact gO.map (Fs (L:=[(3,0),(3,1),(9,2),(30,3)]) By By (oo ((mz (P:=prog) (t:=3) By).b K) By (oo ((mz (P:=prog) (t:=3) By).b K) By (oo ((Rn (P:=prog) (t:=9) By).b K) By (oo hs By LU)))))
   (fun p=>⟨p.1,p.2.1,p.2.2.1,p.2.2.2.1⟩) (fun p=>by rw[fD];rfl) (fun p h=>.mk _ h.1 h.2.1 h.2.2.1 h.2.2.2.1.1 h.2.2.2.1.2)
def Gg(x:gX):Prop:=(-9223372036854775808<=x.lC/\x.lC<=9223372036854775807)/\(x.Path.length<=maxLen/\∀a∈x.Path,(-9223372036854775808<=a/\a<=9223372036854775807))/\lY x.bp/\True
def U9:vP prog 46 gX Gg:=
 ki.map (sj (L:=[(3,0),(24,1),(32,2)]) By By (jK (mz (P:=prog) (t:=3) By) By (jK LV By (jK U8 By xj))))
  (fun p=>⟨p.1,p.2.1,p.2.2.1⟩) (fun p=>by first|rfl|(simp only[fD,zx];rfl)) (fun _ h=>h)
def afJ{w:World}{R:Nat->Nat}{a0 a1 a2 a3:AV}{v0 v1 v2 v3:Value}(h0:VR w R a0 v0)(h1:VR w R a1 v1)(h2:VR w R a2 v2)(h3:VR w R a3 v3):k8 w R [a0,a1,a2,a3] #[v0,v1,v2,v3]:=⟨rfl,fun j a v k1 k2=>by match j,k1,k2 with|0,k1,k2=>(cases k1;cases k2;exact h0)|1,k1,k2=>(cases k1;cases k2;exact h1)|2,k1,k2=>(cases k1;cases k2;exact h2)|3,k1,k2=>(cases k1;cases k2;exact h3)⟩
def tW:ownKnob Tryz.prog.godebug=none:=By
def s7:laidOutB Tryz.prog=true:=By
def vG:Tryz.prog.underlying 4=some .bool:=By
set_option maxRecDepth 100000 in
def tV{H:Type}{enc:TypeId×Value->H}{W:World}{base:Nat}{args:Array Value}{ds gs:List (DataW H)}{before:List MemPlace}
 (agH:∀(j:Nat) t v,Tryz.f4.params[j]? =some t->args[j]? =some v->Value.okWide Tryz.prog W .any base t v)
 (hW:DataW.Whole enc Tryz.prog Tryz.f4.params.toList Rows.reachStaysSpec.vars false W args.toList ds gs before):
 Calls Tryz.prog 4 args W fun e w'=>e=.returned (.bool true)/\Below W.heap.size W w':=by
 obtain⟨p,q,hA0,hV,rfl,hfz,hnd⟩:=hW
 have qU:=agH
 have hA:DataW.TrodAll enc Tryz.prog W 0 (fun _=>true) true Tryz.f4.params.toList args.toList ds p:=hA0
 have hp:Tryz.f4.params= #[22,23,26,46]:=By
 rw[hp]at hA qU
 obtain⟨v0,v1,v2,v3,d0,d1,d2,d3,p0,p1,p2,p3,rfl,rfl,rfl,h0,h1,h2,h3⟩:=trodAll_four hA
 obtain⟨x0,w0,N0,k0⟩:=LS By By (Vb (P:=prog) (t:=5) By) h0 (okWide_slice (e:=5) By (qU 0 22 v0 rfl rfl))
 obtain⟨x1,w1,N1,k1⟩:=LS By By Va h1 (okWide_slice (e:=73) By (qU 1 23 v1 rfl rfl))
 obtain⟨x2,w2,N2,k2⟩:=LR (.inl (yc (L:=[(24,0),(3,1)]) By)) U7 (qU 2 26 v2 rfl rfl) h2
 obtain⟨x3,w3,N3,k3⟩:=LR (.inl (yc (L:=[(3,0),(24,1),(32,2)]) By)) U9 (qU 3 46 v3 rfl rfl) h3
 refine NS (max N0 (max N1 (max N2 N3))) ?_ (afJ (k0 _ AT) (k1 _ AT) (k2 _ AT) (k3 _ AT))
 exact(vF (s8 x0 x1 x2 x3)).app rfl
end Go.AB
namespace Go.Proofs.YtgecakgfnjkkbaaGreat
open Go.ChangeShapes Go.WideShapes Go.ChangeAt Go.RowKit
set_option maxRecDepth 100000 in
theorem yX(os:Os)(started:os.Started)(H:Type)(enc:TypeId×Value->H):
 ReturnsInHanded {} Tryz.checked os 4 .any (Rows.reachStaysSpec.pre6 enc Tryz.prog Tryz.f4 Rows.reachStaysRow.domain false) (Rows.reachStaysSpec.post enc Tryz.prog Tryz.f4 false true false false):=by
 refine returnsInHanded_of_change (C:=Tryz.checked) AB.tW started (by kernel_rfl) Tryz.func4
  (ChangeSpec.witness6 (enc:=enc) (C:=Tryz.checked) false ⟨#[],#[.slice none 0 0,.slice none 0 0,.agg #[.slice none 0 0,.int .i64 0],.agg #[.int .i64 0,.slice none 0 0,.int .i64 0,.int .i64 0,.string ⟨#[]⟩,.slice none 0 0]],[]⟩ 8 (by kernel_rfl) (by kernel_rfl) (by kernel_rfl) (by kernel_rfl)) ?_
 intro W base args ds gs before qU hW _ _
 exact AB.UH rfl (by kernel_rfl) AB.vG AB.s7 (of_decide_eq_true (by kernel_rfl)) (fun ds h=>by
  match ds,h with
  |[_,_,_,_],_=>rfl) hW (AB.tV qU hW)
theorem ga{a b:Bool}(h:a=true)(k:b=true):(a&&b)=true:=by rw[h,k];rfl
theorem FA:(Rows.reachStaysRow.wf (OpenSpec.ofChange Rows.reachStaysSpec))=true:=by kernel_rfl
theorem FB:(laidOutB Tryz.checked.prog)=true:=by kernel_rfl
theorem FD:(mapsRowed Tryz.checked.prog)=true:=by kernel_rfl
theorem FG:(Tryz.f4.params.all (Tryz.checked.prog.readableRec ·))=true:=by kernel_rfl
theorem FH:(namedTie Tryz.checked.prog Rows.reachStaysRow.named Rows.reachStaysSpec.vars)=true:=by kernel_rfl
theorem FI:((Rows.reachStaysRow.stops==[]))=true:=by kernel_rfl
theorem FJ:((Tryz.checked.prog.stops==[]))=true:=by kernel_rfl
theorem FK:((Rows.reachStaysRow.knobs==[]))=true:=by kernel_rfl
theorem FL:((Tryz.checked.prog.stopKnobs==[]))=true:=by kernel_rfl
theorem FM:((Rows.reachStaysRow.inPlace==Tryz.checked.prog.inPlace 4))=true:=by kernel_rfl
theorem DW:((Rows.reachStaysRow.unfollowed==Tryz.checked.prog.unfollowed 4))=true:=by kernel_rfl
theorem DX:((Rows.reachStaysRow.recurses==Tryz.checked.prog.recurses 4))=true:=by kernel_rfl
theorem DY:((Rows.reachStaysRow.named==Tryz.checked.prog.varsNamed 4))=true:=by kernel_rfl
theorem DZ:((Rows.reachStaysRow.maps==(Tryz.f4.params.toList++Rows.reachStaysSpec.plain.varTypes Tryz.checked.prog).any (Tryz.checked.prog.mapsRec ·)))=true:=by kernel_rfl
theorem D0:((Rows.reachStaysRow.ifaces==(Tryz.f4.params.toList++Rows.reachStaysSpec.plain.varTypes Tryz.checked.prog).any (Tryz.checked.prog.ifacesRec ·)))=true:=by kernel_rfl
theorem D1:((Rows.reachStaysRow.mapsOut==Tryz.checked.prog.mapsAmong Tryz.f4.resultTypes.toList))=true:=by kernel_rfl
theorem D2:((Rows.reachStaysRow.loops==(Tryz.f4.params.toList++Rows.reachStaysSpec.plain.varTypes Tryz.checked.prog).any (Tryz.checked.prog.loopsFrom ·)))=true:=by kernel_rfl
theorem D3:((Rows.reachStaysRow.wideKeys==(Tryz.f4.params.toList++Rows.reachStaysSpec.plain.varTypes Tryz.checked.prog++Tryz.f4.resultTypes.toList).any (Tryz.checked.prog.wideKeysFrom ·)))=true:=by kernel_rfl
theorem D4:(Rows.reachStaysSpec.vars.all (Tryz.checked.prog.varReadable ·))=true:=by kernel_rfl
theorem D5:(Tryz.f4.resultTypes.all (fun t=>Tryz.checked.prog.readableRec t&&decide (t<Tryz.checked.prog.types.size)))=true:=by kernel_rfl
theorem D6:((Rows.reachStaysRow.ifacesOut==Tryz.f4.resultTypes.toList.any (Tryz.checked.prog.ifacesRec ·)))=true:=by kernel_rfl
theorem D7:((Rows.reachStaysRow.loopsOut==Tryz.f4.resultTypes.toList.any (Tryz.checked.prog.loopsFrom ·)))=true:=by kernel_rfl
theorem D8:((Rows.reachStaysRow.plainKeys==Tryz.checked.prog.plainKeys))=true:=by kernel_rfl
theorem D9:(Rows.reachStaysRow.shortTexts.isNone)=true:=by kernel_rfl
theorem Ea:(Tryz.checked.prog.stopsHeard)=true:=by kernel_rfl
theorem Eb:(Tryz.checked.prog.mayEnter)=true:=by kernel_rfl
theorem Ec:((Rows.reachStaysRow.lifted==Tryz.checked.prog.liftsFinal))=true:=by kernel_rfl
theorem Ed:((Tryz.checked.prog.make==some Rows.reachStaysRow.make))=true:=by kernel_rfl
theorem Ee:((Rows.reachStaysRow.kinds==(if Rows.reachStaysRow.domain.isEmpty then[]else Tryz.f4.params.toList.map fun t=>match Tryz.checked.prog.underlying t with|some (.int k)=>some k|_=>none)))=true:=by kernel_rfl
theorem Ef:((Rows.reachStaysRow.pinned==Rows.reachStaysRow.pinnedBy))=true:=by kernel_rfl
theorem Eg:((Rows.reachStaysRow.veiled==(Tryz.f4.params.toList++Rows.reachStaysSpec.plain.varTypes Tryz.checked.prog++Tryz.f4.resultTypes.toList).any (Tryz.checked.prog.veiledRec ·)))=true:=by kernel_rfl
theorem Eh:(Rows.reachStaysRow.veiledFits Tryz.checked.prog Tryz.f4.params.toList (Tryz.f4.params.toList++Rows.reachStaysSpec.plain.varTypes Tryz.checked.prog++Tryz.f4.resultTypes.toList))=true:=by kernel_rfl
set_option maxRecDepth 100000 in
theorem yW:joinedFacts Tryz.checked.prog 4 Tryz.f4 Rows.reachStaysSpec Rows.reachStaysRow=true:=(ga (ga (ga (ga (ga (ga (ga (ga (ga (ga (ga (ga (ga (ga (ga (ga (ga (ga (ga (ga (ga (ga (ga (ga (ga (ga (ga (ga (ga (ga (ga FA FB) FD) FG) FH) FI) FJ) FK) FL) FM) DW) DX) DY) DZ) D0) D1) D2) D3) D4) D5) D6) D7) D8) D9) Ea) Eb) Ec) Ed) Ee) Ef) Eg) Eh)
theorem reachStays_holds:Rows.ReachStaysSaid:=
 OpenClaim.holds_of_wide 4 Tryz.f4 rfl rfl rfl rfl rfl rfl rfl ⟨rfl,rfl,rfl,rfl,rfl⟩ rfl rfl rfl rfl rfl (by kernel_rfl) Tryz.func4 yW
  (of_decide_eq_true (by kernel_rfl)) (by unfold Func.isWrapper;first|(rw[if_pos (by decide+kernel)];kernel_rfl)|(rw[if_neg (by decide+kernel)];exact⟨rfl,rfl⟩))
  (fun os started H enc _=>yX os started H enc)
end Go.Proofs.YtgecakgfnjkkbaaGreat
end
