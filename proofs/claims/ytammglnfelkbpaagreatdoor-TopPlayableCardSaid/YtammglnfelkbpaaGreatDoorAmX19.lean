/- Walks by reckoning: pointers that are named; bundles. -/
import Derived.Test.YtammglnfelkbpaaGreatDoorAmNs
namespace Go.Am
section
variable{P:Program}{n d:Nat}{S:VS}{ty:TypeId}{pos:String}{af:Array Edge}{gd:Option (Nat×Bool)}{K:Eff->Prop}{Kv:VS->Prop}
theorem cOu[Mode]{t u e:TypeId}{x:Operand}{a:Addr}(ht:P.underlying t=some (.pointer e))(k:K (.p (.b true)))(hx:S.ev x=.d (.lit (.pointer (some a))):=by exact rfl)(hd:Nat.ble (d+1) n=true:=by exact rfl):
  bY P n ⟨some d,.binOp .neq t x (.const (.pointer none)) u,ty,pos,af,gd⟩ S K:=by
 refine dP (us:=[]) k λS' hA ρ=>?_;have e1:(S'.at ρ).eval x=.d (.lit (.pointer (some a))):=by rw[sQ,hA.ev x (by simp[Op.operands]),hx];rfl
 refine cG rfl (f5 hd) λA M w0 ac w hR=>⟨.bool true,?_,.of_lit rfl⟩;have hc:ac.eval (.const (.pointer none))=.pointer none:=rfl;have hg:eqGuard .neq t x (.const (.pointer none)) (.pointer (some a)) (.pointer none)=pure ():=rfl;have hb:binOp .neq t (.pointer (some a)) (.pointer none)=(do pure (.bool (!(<-Op.equal t (.pointer (some a)) (.pointer none))))):=rfl;have hq:(Op.equalIn Op.maxDepth t (.pointer (some a)) (.pointer none)).run P w=.ok false w:=by
  have hq2:∀m,(Op.equalIn (m+1) t (.pointer (some a)) (.pointer none)).run P w=.ok false w:=λm=>by
   simp only[Op.equalIn,Sem.run_bind,run_underlying ht,Result.andThen_ok]
   simp
  exact hq2 9999
 simp[execOp,hR.lit e1,hc,hg,hb,Op.equal,hq]
theorem cNl[Mode]{x:Operand}{a:Addr}(k:K (.p (.d (.lit (.pointer (some a))))))(hx:S.ev x=.d (.lit (.pointer (some a))):=by exact rfl)(hd:Nat.ble (d+1) n=true:=by exact rfl):
  bY P n ⟨some d,.nilCheck x,ty,pos,af,gd⟩ S K:=by
 refine dP (us:=[]) k λS' hA ρ=>?_;have e1:(S'.at ρ).eval x=.d (.lit (.pointer (some a))):=by rw[sQ,hA.ev x (by simp[Op.operands]),hx];rfl
 exact cG rfl (f5 hd) λA M w0 ac w hR=>⟨.pointer (some a),by simp[execOp,hR.lit e1],.of_lit rfl⟩
theorem cOp[Mode]{t:TypeId}{x:Operand}{h:Nat}{L:List ((Nat×Nat)×List D)}{p:(Nat×Nat)×List D}{es:List D}(hp:p∈L)(ht:gJ P t es.length)(he:p.2=es)(k:K (.r (.agg es) [h]))
  (hx:S.ev x=.d (.lit (.pointer (some ⟨p.1.1,p.1.2,none⟩))):=by exact rfl)(hm:ob S.objs h=some (.raw (ns L)):=by exact rfl)(hd:Nat.ble (d+1) n=true:=by exact rfl)(hl:∀ρ:Rho,ρ.av (.agg es)=.agg es:=by exactλ_=>rfl):
  bY P n ⟨some d,.load t x,ty,pos,af,gd⟩ S K:=by
 refine dP (us:=[h]) k λS' hA ρ=>?_;have e1:(S'.at ρ).eval x=.d (.lit (.pointer (some ⟨p.1.1,p.1.2,none⟩))):=by rw[sQ,hA.ev x (by simp[Op.operands]),hx];rfl
 obtain⟨i,i1,_,_⟩:=oM (ρ:=ρ) ((hA.ob h (by simp)).trans hm);rw[hl];refine cG rfl (f5 hd) λA M w0 ac w hR=>?_;obtain⟨_,hb⟩:=(hR.inv.holds _ (i8 i1)).2 w _ (Mono.refl _ _) (Keeps.refl _ _);obtain⟨vs,hds,hc,_⟩:=hb p hp;rw[he] at hds;refine⟨.agg vs.toArray,?_,.agg (by simpa using hds)⟩
 simp[execOp,hR.lit e1,aCz ht (vs:=vs) hds.length hc]
end
end Go.Am
