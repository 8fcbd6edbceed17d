/- A part. -/
import Derived.Test.YtgecakgfnjkkbaaGreatFt27
import Derived.Test.YtgecakgfnjkkbaaGreatRows
import Derived.JoinedCond
import Derived.Carry
set_option linter.unusedSimpArgs false
set_option linter.unusedVariables false
section
namespace Go.AB
open Go Go.ChangeShapes Go.WideShapes Go.ChangeAt Go.RowKit Go.Proofs.YtgecakgfnjkkbaaGreat Go.Proofs
open Go.Proofs.Tryz (prog)
def JS(x:aj):Prop:=(-9223372036854775808<=x.aR/\x.aR<=9223372036854775807)/\(-9223372036854775808<=x.To/\x.To<=9223372036854775807)/\True
theorem RQ:yR prog 73 aj JS:=
 jR.map (xn (L:=[(3,0),(3,1)]) (by kernel_rfl) (by kernel_rfl) (oo (pP (P:=prog) (t:=3) (by kernel_rfl)) (by kernel_rfl) (oo (pP (P:=prog) (t:=3) (by kernel_rfl)) (by kernel_rfl) BG)))
  (fun p=>⟨p.1,p.2.1⟩) (fun p=>by first|rfl|(simp only[iD,ni];rfl)) (fun _ h=>h)
theorem RO:jR prog 24 1 (fun l:List Int=>[.sl false 1 l.length (flat l)]) (fun l=>l.length<=maxLen/\∀a∈l,(-9223372036854775808<=a/\a<=9223372036854775807)):=xp (by kernel_rfl) (by kernel_rfl) (pP (P:=prog) (t:=3) (by kernel_rfl))
def Ct(x:jd):Prop:=(x.cH.length<=maxLen/\∀a∈x.cH,(-9223372036854775808<=a/\a<=9223372036854775807))/\(-9223372036854775808<=x.oF/\x.oF<=9223372036854775807)/\True
theorem RP:yR prog 26 jd Ct:=
 jR.map (xn (L:=[(24,0),(3,1)]) (by kernel_rfl) (by kernel_rfl) (oo RO (by kernel_rfl) (oo (pP (P:=prog) (t:=3) (by kernel_rfl)) (by kernel_rfl) BG)))
  (fun p=>⟨p.1,p.2.1⟩) (fun p=>by first|rfl|(simp only[iD,wo];rfl)) (fun _ h=>h)
theorem acg{w:World}{R:Nat->Nat}{a0 a1 a2 a3:AV}{v0 v1 v2 v3:Value}(h0:VR w R a0 v0)(h1:VR w R a1 v1)(h2:VR w R a2 v2)(h3:VR w R a3 v3):mn w R [a0,a1,a2,a3] #[v0,v1,v2,v3]:=⟨rfl,fun j a v k1 k2=>by match j,k1,k2 with|0,k1,k2=>(cases k1;cases k2;exact h0)|1,k1,k2=>(cases k1;cases k2;exact h1)|2,k1,k2=>(cases k1;cases k2;exact h2)|3,k1,k2=>(cases k1;cases k2;exact h3)⟩
theorem tP:ownKnob Tryz.prog.godebug=none:=by kernel_rfl
theorem rX:laidOutB Tryz.prog=true:=by kernel_rfl
theorem vu:Tryz.prog.underlying 4=some .bool:=by kernel_rfl
set_option maxRecDepth 100000 in
theorem tO{H:Type}{enc:TypeId×Value->H}{W:World}{base:Nat}{args:Array Value}{ds gs:List (DataW H)}{before:List MemPlace}
 (adf:∀(j:Nat) t v,Tryz.f3.params[j]? =some t->args[j]? =some v->Value.okWide Tryz.prog W .any base t v)
 (hW:DataW.Whole enc Tryz.prog Tryz.f3.params.toList Rows.fileStaysSpec.vars false W args.toList ds gs before):
 Calls Tryz.prog 3 args W fun e w'=>e=.returned (.bool true)/\Below W.heap.size W w':=by
 obtain⟨p,q,hA0,hV,rfl,hfz,hnd⟩:=hW
 have nW:=adf
 have hA:DataW.TrodAll enc Tryz.prog W 0 (fun _=>true) true Tryz.f3.params.toList args.toList ds p:=hA0
 have hp:Tryz.f3.params= #[22,23,26,3]:=by kernel_rfl
 rw[hp]at hA nW
 obtain⟨v0,v1,v2,v3,d0,d1,d2,d3,p0,p1,p2,p3,rfl,rfl,rfl,h0,h1,h2,h3⟩:=trodAll_four hA
 obtain⟨x0,w0,N0,k0⟩:=Je (by kernel_rfl) (by kernel_rfl) (RR (P:=prog) (t:=5) (by kernel_rfl)) h0 (okWide_slice (e:=5) (by kernel_rfl) (nW 0 22 v0 rfl rfl))
 obtain⟨x1,w1,N1,k1⟩:=Je (by kernel_rfl) (by kernel_rfl) RQ h1 (okWide_slice (e:=73) (by kernel_rfl) (nW 1 23 v1 rfl rfl))
 obtain⟨x2,w2,N2,k2⟩:=RM (.inl (FT (L:=[(24,0),(3,1)]) (by kernel_rfl))) RP (nW 2 26 v2 rfl rfl) h2
 obtain⟨x3,w3,N3,k3⟩:=RN (by kernel_rfl) (nW 3 3 v3 rfl rfl) h3
 refine K5 (max N0 (max N1 (max N2 N3))) ?_ (acg (k0 _ (by omega)) (k1 _ (by omega)) (k2 _ (by omega)) (k3 _ (by omega)))
 exact(vt (rY x0 x1 x2 x3)).app rfl
end Go.AB
namespace Go.Proofs.YtgecakgfnjkkbaaGreat
open Go.ChangeShapes Go.WideShapes Go.ChangeAt Go.RowKit
set_option maxRecDepth 100000 in
theorem xZ(os:Os)(started:os.Started)(H:Type)(enc:TypeId×Value->H):
 ReturnsInHanded {} Tryz.checked os 3 .any (Rows.fileStaysSpec.pre6 enc Tryz.prog Tryz.f3 Rows.fileStaysRow.domain false) (Rows.fileStaysSpec.post enc Tryz.prog Tryz.f3 false true false false):=by
 refine returnsInHanded_of_change (C:=Tryz.checked) AB.tP started (by kernel_rfl) Tryz.func3
  (ChangeSpec.witness6 (enc:=enc) (C:=Tryz.checked) false ⟨#[],#[.slice none 0 0,.slice none 0 0,.agg #[.slice none 0 0,.int .i64 0],.int .i64 0],[]⟩ 8 (by kernel_rfl) (by kernel_rfl) (by kernel_rfl) (by kernel_rfl)) ?_
 intro W base args ds gs before nW hW _ _
 exact AB.Rn rfl (by kernel_rfl) AB.vu AB.rX (of_decide_eq_true (by kernel_rfl)) (fun ds h=>by
  match ds,h with
  |[_,_,_,_],_=>rfl) hW (AB.tO nW hW)
theorem fC{a b:Bool}(h:a=true)(k:b=true):(a&&b)=true:=by rw[h,k];rfl
theorem FU:(Rows.fileStaysRow.wf (OpenSpec.ofChange Rows.fileStaysSpec))=true:=by kernel_rfl
theorem FV:(laidOutB Tryz.checked.prog)=true:=by kernel_rfl
theorem FW:(mapsRowed Tryz.checked.prog)=true:=by kernel_rfl
theorem FX:(Tryz.f3.params.all (Tryz.checked.prog.readableRec ·))=true:=by kernel_rfl
theorem FY:(namedTie Tryz.checked.prog Rows.fileStaysRow.named Rows.fileStaysSpec.vars)=true:=by kernel_rfl
theorem FZ:((Rows.fileStaysRow.stops==[]))=true:=by kernel_rfl
theorem F0:((Tryz.checked.prog.stops==[]))=true:=by kernel_rfl
theorem F3:((Rows.fileStaysRow.knobs==[]))=true:=by kernel_rfl
theorem F4:((Tryz.checked.prog.stopKnobs==[]))=true:=by kernel_rfl
theorem F5:((Rows.fileStaysRow.inPlace==Tryz.checked.prog.inPlace 3))=true:=by kernel_rfl
theorem CQ:((Rows.fileStaysRow.unfollowed==Tryz.checked.prog.unfollowed 3))=true:=by kernel_rfl
theorem CR:((Rows.fileStaysRow.recurses==Tryz.checked.prog.recurses 3))=true:=by kernel_rfl
theorem CS:((Rows.fileStaysRow.named==Tryz.checked.prog.varsNamed 3))=true:=by kernel_rfl
theorem CT:((Rows.fileStaysRow.maps==(Tryz.f3.params.toList++Rows.fileStaysSpec.plain.varTypes Tryz.checked.prog).any (Tryz.checked.prog.mapsRec ·)))=true:=by kernel_rfl
theorem CU:((Rows.fileStaysRow.ifaces==(Tryz.f3.params.toList++Rows.fileStaysSpec.plain.varTypes Tryz.checked.prog).any (Tryz.checked.prog.ifacesRec ·)))=true:=by kernel_rfl
theorem CV:((Rows.fileStaysRow.mapsOut==Tryz.checked.prog.mapsAmong Tryz.f3.resultTypes.toList))=true:=by kernel_rfl
theorem CW:((Rows.fileStaysRow.loops==(Tryz.f3.params.toList++Rows.fileStaysSpec.plain.varTypes Tryz.checked.prog).any (Tryz.checked.prog.loopsFrom ·)))=true:=by kernel_rfl
theorem CX:((Rows.fileStaysRow.wideKeys==(Tryz.f3.params.toList++Rows.fileStaysSpec.plain.varTypes Tryz.checked.prog++Tryz.f3.resultTypes.toList).any (Tryz.checked.prog.wideKeysFrom ·)))=true:=by kernel_rfl
theorem CY:(Rows.fileStaysSpec.vars.all (Tryz.checked.prog.varReadable ·))=true:=by kernel_rfl
theorem CZ:(Tryz.f3.resultTypes.all (fun t=>Tryz.checked.prog.readableRec t&&decide (t<Tryz.checked.prog.types.size)))=true:=by kernel_rfl
theorem C0:((Rows.fileStaysRow.ifacesOut==Tryz.f3.resultTypes.toList.any (Tryz.checked.prog.ifacesRec ·)))=true:=by kernel_rfl
theorem C3:((Rows.fileStaysRow.loopsOut==Tryz.f3.resultTypes.toList.any (Tryz.checked.prog.loopsFrom ·)))=true:=by kernel_rfl
theorem C4:((Rows.fileStaysRow.plainKeys==Tryz.checked.prog.plainKeys))=true:=by kernel_rfl
theorem C5:(Rows.fileStaysRow.shortTexts.isNone)=true:=by kernel_rfl
theorem C6:(Tryz.checked.prog.stopsHeard)=true:=by kernel_rfl
theorem C7:(Tryz.checked.prog.mayEnter)=true:=by kernel_rfl
theorem C8:((Rows.fileStaysRow.lifted==Tryz.checked.prog.liftsFinal))=true:=by kernel_rfl
theorem C9:((Tryz.checked.prog.make==some Rows.fileStaysRow.make))=true:=by kernel_rfl
theorem Da:((Rows.fileStaysRow.kinds==(if Rows.fileStaysRow.domain.isEmpty then[]else Tryz.f3.params.toList.map fun t=>match Tryz.checked.prog.underlying t with|some (.int k)=>some k|_=>none)))=true:=by kernel_rfl
theorem Db:((Rows.fileStaysRow.pinned==Rows.fileStaysRow.pinnedBy))=true:=by kernel_rfl
theorem Dc:((Rows.fileStaysRow.veiled==(Tryz.f3.params.toList++Rows.fileStaysSpec.plain.varTypes Tryz.checked.prog++Tryz.f3.resultTypes.toList).any (Tryz.checked.prog.veiledRec ·)))=true:=by kernel_rfl
theorem Dd:(Rows.fileStaysRow.veiledFits Tryz.checked.prog Tryz.f3.params.toList (Tryz.f3.params.toList++Rows.fileStaysSpec.plain.varTypes Tryz.checked.prog++Tryz.f3.resultTypes.toList))=true:=by kernel_rfl
set_option maxRecDepth 100000 in
theorem xY:joinedFacts Tryz.checked.prog 3 Tryz.f3 Rows.fileStaysSpec Rows.fileStaysRow=true:=(fC (fC (fC (fC (fC (fC (fC (fC (fC (fC (fC (fC (fC (fC (fC (fC (fC (fC (fC (fC (fC (fC (fC (fC (fC (fC (fC (fC (fC (fC (fC FU FV) FW) FX) FY) FZ) F0) F3) F4) F5) CQ) CR) CS) CT) CU) CV) CW) CX) CY) CZ) C0) C3) C4) C5) C6) C7) C8) C9) Da) Db) Dc) Dd)
theorem fileStays_holds:Rows.FileStaysSaid:=
 OpenClaim.holds_of_wide 3 Tryz.f3 rfl rfl rfl rfl rfl rfl rfl ⟨rfl,rfl,rfl,rfl,rfl⟩ rfl rfl rfl rfl rfl (by kernel_rfl) Tryz.func3 xY
  (of_decide_eq_true (by kernel_rfl)) (by unfold Func.isWrapper;first|(rw[if_pos (by decide+kernel)];kernel_rfl)|(rw[if_neg (by decide+kernel)];exact⟨rfl,rfl⟩))
  (fun os started H enc _=>xZ os started H enc)
end Go.Proofs.YtgecakgfnjkkbaaGreat
end
