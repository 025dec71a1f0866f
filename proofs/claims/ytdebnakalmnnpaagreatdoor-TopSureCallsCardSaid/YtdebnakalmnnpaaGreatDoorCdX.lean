/- Cards: nodes, one more point, what holds. -/
import Derived.Test.YtdebnakalmnnpaaGreatDoorXSimP2
import Derived.Test.YtdebnakalmnnpaaGreatDoorAmNs
namespace Go.Am
open Go.Proofs
set_option maxRecDepth 100000
set_option maxHeartbeats 40000000
attribute [local instance] aDb
structure aW where
 ga:Int
 gb:Int
 pa:Int
 pb:Int
 deriving DecidableEq,Inhabited
def qL(s:aW):List D:=[.lit (.int .i64 0),.lit (.int .i64 0),.lit (.int .i64 0),.lit (.int .i64 0),.lit (.int .i64 0),.lit (.int .i64 0),.lit (.int .i64 0),.lit (.int .i64 0),.lit (.int .i64 0),.lit (.int .i64 0),.lit (.int .i64 0),.lit (.int .i64 0),.lit (.int .i64 s.ga),.lit (.int .i64 s.gb),.lit (.int .i64 s.pa),.lit (.int .i64 s.pb)]
def jH(s:aW)(v:Value)(i lo hi:Int):List D:=[.lit (.int .i64 0),.lit (.int .i64 0),.lit (.int .i64 0),.lit (.int .i64 0),.lit (.int .i64 0),.lit (.int .i64 0),.lit (.int .i64 0),.lit (.int .i64 0),.lit (.int .i64 0),.lit (.int .i64 0),.lit (.int .i64 0),.lit (.int .i64 0),.lit (.int .i64 s.ga),.lit (.int .i64 s.gb),.lit (.int .i64 s.pa),.lit (.int .i64 s.pb),.lit v,.lit (.int .i64 i),.lit (.int .i64 lo),.lit (.int .i64 hi)]
def rdC(l:List dB):List D:=[.lit (.int .i64 2),.lit (.int .i64 2),.lit (.bool false),.lit (.int .i64 2),.lit (.int .i64 3),.lit (.int .i64 0),.lit (.int .i64 4),.lit (.int .i64 2),.lit (.int .i64 2),.lit (.bool false),.lit (.int .i64 0),.sl 4 (l.map lN)]
def gU(s:aW)(side:Int):Option aW:=
 (aJu ⟨s.pa,s.pb⟩ side).bind λp=>
 bif decide ((⟨s.ga,s.gb⟩:aJ)=⟨2,2⟩) then none else
 (aHt p side 4 2).bind λb=>
 bif b then(aJu ⟨s.ga,s.gb⟩ side).bind λg=>(bif decide ((⟨s.ga,s.gb⟩:aJ)=⟨2,2⟩) then some true else(aHt g side 2 2).bind λc=>some c).bind λc=>bif c then none else some ⟨g.A,g.B,0,0⟩
 else some ⟨s.ga,s.gb,p.A,p.B⟩
theorem bOv(s:aW):Fn Tryz.prog 202 [.agg (qL s)] (.agg (cH ⟨0,0⟩)):=by
 refine fnx xT {} [.cell 2 124] Tryz.func202 Tryz.results202 Tryz.ntmps202 ?_;refine cHa (q:=2) 2 Tryz.underlying221 (λw=>Tryz.sizeOf124 w) (by decide) ?_;refine⟨⟨0,rfl,?_⟩⟩;refine xlp [2,8,9,10] [2] (λ(_:Unit)=>([],[])) (λk _=>match k with|0=>none|_+1=>some ()) () (k0:=1) rfl (lev []) ?_;intro k _ _;refine ob2 ?_ ?_
 · intro h;cases h
 intro _;exact⟨rfl,rfl,rfl⟩
theorem bNw:oP Tryz.prog 225 (.agg #[.int .i64 0,.int .i64 0,.int .i64 0,.int .i64 0,.int .i64 0,.int .i64 0,.int .i64 0,.int .i64 0,.int .i64 0,.int .i64 0,.int .i64 0,.int .i64 0,.int .i64 0,.int .i64 0,.int .i64 0,.int .i64 0,.pointer none,.int .i64 0,.int .i64 0,.int .i64 0]) [(0,16),(16,1),(17,1),(18,2)]:=⟨Tryz.zeroValue225,_,Tryz.runUnderlying225,λw=>by simp[Tryz.sizeOf223,Tryz.sizeOf220,Tryz.sizeOf3,Tryz.sizeOf39]⟩
theorem bKs(s:aW)(side:Int)(v:Value)(i lo hi:Int)(l:List dB)(b o:Nat){r:aW}(h:gU s side=some r):bC Tryz.prog 201 [.agg (rdC l),.bp b o 0,.d (.lit (.int .i64 side))] [.box b o (jH s v i lo hi)]
    (λr' o'=>∃b' q,r'=.bp b' q 0/\o'=[.box b o (jH s v i lo hi),.box b' q (jH r (.pointer (some ⟨b,o,none⟩)) side (w64 (lo+1)) (w64 (hi+1)))]):=by
 unfold gU at h;refine fng xT {} true [(b,o,undef)] [.agg (rdC l),.bp 100000 0 0,.d (.lit (.int .i64 side))] [(100000,.box (jH s v i lo hi))] [.tmp 6] Tryz.func201 Tryz.results201 Tryz.ntmps201 ?_;refine cl (sh:=some ()) (g:=λ_=>some ()) (enc:=λ_=>.agg (cH ⟨0,0⟩)) Tryz.call202 (λ_ _=>bOv s) rfl λ_ _=>?_;refine bWz ?_;refine ob2 ?_ ?_
 · intro h;cases h
 intro _;refine⟨by kernel_rfl,?_⟩;refine⟨by kernel_rfl,?_⟩;refine jg (X:=some false) (g:=λb=>some b) (r:=false) rfl (λx hx=>?_) λb3 h3=>?_
 · cases hx
   refine ob2 ?_ ?_
   · intro _;exact jt rfl
   · intro _;exact jt rfl
 cases h3;refine ob2 ?_ ?_
 · intro h;cases h
 intro _;refine aWk (a:=(⟨s.ga,s.gb⟩:aJ)) (b:=(⟨2,2⟩:aJ)) Tryz.eqGuardType124 aLw ?_;refine cl Tryz.call238 (λ_=>aUq _ _) h λr1 h=>?_;refine br h (λh=>by cases h) λh=>?_;refine ob2 ?_ ?_
 · intro h;cases h
 intro _;refine cl Tryz.call239 (λ_=>aRa _ _ _ _) h λr2 h=>?_;refine br h (λh=>?_) λh=>?_
 · refine cl Tryz.call238 (λ_=>aUq _ _) h λr3 h=>?_
   refine jg h (λx h=>?_) λb4 h=>?_
   · refine br h (λh=>?_) λh=>?_
     · exact jt h
     · refine cl Tryz.call239 (λ_=>aRa _ _ _ _) h λr4 h=>?_
       exact jt h
   refine br h (λh=>by cases h) λh=>?_;refine⟨by kernel_rfl,?_⟩;refine bNb bNw (zs:=[.lit (.int .i64 0),.lit (.int .i64 0),.lit (.int .i64 0),.lit (.int .i64 0),.lit (.int .i64 0),.lit (.int .i64 0),.lit (.int .i64 0),.lit (.int .i64 0),.lit (.int .i64 0),.lit (.int .i64 0),.lit (.int .i64 0),.lit (.int .i64 0),.lit (.int .i64 0),.lit (.int .i64 0),.lit (.int .i64 0),.lit (.int .i64 0),.lit (.pointer none),.lit (.int .i64 0),.lit (.int .i64 0),.lit (.int .i64 0)]) rfl ?_;refine⟨by kernel_rfl,?_⟩;cases h;exact⟨.inl rfl,[100000,140],λb' o' s'=>⟨b' 140,o' 140,rfl,by kernel_rfl⟩⟩
 · refine⟨by kernel_rfl,?_⟩
   refine bNb bNw (zs:=[.lit (.int .i64 0),.lit (.int .i64 0),.lit (.int .i64 0),.lit (.int .i64 0),.lit (.int .i64 0),.lit (.int .i64 0),.lit (.int .i64 0),.lit (.int .i64 0),.lit (.int .i64 0),.lit (.int .i64 0),.lit (.int .i64 0),.lit (.int .i64 0),.lit (.int .i64 0),.lit (.int .i64 0),.lit (.int .i64 0),.lit (.int .i64 0),.lit (.pointer none),.lit (.int .i64 0),.lit (.int .i64 0),.lit (.int .i64 0)]) rfl ?_;refine⟨by kernel_rfl,?_⟩;cases h;exact⟨.inl rfl,[100000,140],λb' o' s'=>⟨b' 140,o' 140,rfl,by kernel_rfl⟩⟩
theorem eqz(w:World):(Op.equalIn 9999 221 (.agg #[.int .i64 0,.int .i64 0,.int .i64 0,.int .i64 0,.int .i64 0,.int .i64 0,.int .i64 0,.int .i64 0,.int .i64 0,.int .i64 0]) (.agg #[.int .i64 0,.int .i64 0,.int .i64 0,.int .i64 0,.int .i64 0,.int .i64 0,.int .i64 0,.int .i64 0,.int .i64 0,.int .i64 0])).run Tryz.prog w=.ok true w:=by kernel_rfl
theorem cAw:aGs Tryz.prog 223 qL:=by
 rintro⟨a0,a1,a2,a3⟩ ⟨b0,b1,b2,b3⟩ w;have e:=eqz w
 simp[qL,bA,go_sem,Op.eqFields,Program.fieldsOf] at e⊢<;>(repeat' split)<;>simp_all
theorem cAo(b:Bool)(a:aW)(w:World):(Instr.checkKey b 10000 223 (.agg ((qL a).map bA).toArray)).run Tryz.prog w=.ok () w:=by
 obtain⟨a1,a2,a3,a4⟩:=a
 kernel_rfl
abbrev kvS(a:aW):Value:=Value.agg ((qL a).map bA).toArray
theorem bBp:mX Tryz.prog 223 kvS:=
 aIy Tryz.underlying223 cAw cAo (λa w=>aWb _ rfl _ _) (by
  rintro⟨a1,a2,a3,a4⟩ ⟨b1,b2,b3,b4⟩ h
  simp[qL] at h|-
  simp_all) (λ_=>rfl)
abbrev dK(l:List (aW×Value)):List (Value×List D):=l.map λp=>(kvS p.1,[.lit p.2])
theorem bGr(s:aW)(v:Value)(i lo hi:Int)(l:List (aW×Value))(m b o:Nat)(hn:cI s l=false):bC Tryz.prog 147 [.d (.lit (.map (some m))),.bp b o 0] [mx m false (dK l),.box b o (jH s v i lo hi)]
    (λr' o'=>r'=.tup []/\o'=[mx m false (dK (l++[(s,.pointer (some ⟨b,o,none⟩))])),.box b o (jH s v i lo hi)]):=by
 refine fng xT {nd:=[0]} true [(b,o,undef),(m,0,undef)] [.d (.hv 1 100001 0),.bp 100000 0 0] [(100001,.map false (dK l)),(100000,.box (jH s v i lo hi))] [] Tryz.func147 Tryz.results147 Tryz.ntmps147 ?_;refine cGv (kv:=kvS) (enc:=λv=>[.lit v]) (agg:=false) (z:=.pointer none) (a:=s) bBp Tryz.underlying118 Tryz.zeroValue220 (λ_ _=>.d (.lit _ rfl)) (mO (enc:=qL) s rfl) ?_;refine ob2 (λh=>absurd (hn.symm.trans h) (by decide)) λ_=>?_;refine cFt (a:=s) (hq:=100000) bBp Tryz.underlying118 (mO (enc:=qL) s rfl) ?_;rw[aOh s _ l hn];exact⟨.inr rfl,[100001,100000],λ_ _ _=>⟨rfl,by kernel_rfl⟩⟩
theorem bGs(s:aW)(v:Value)(i lo hi:Int)(v':Value)(i' lo' hi':Int)(l:List (aW×Value))(m b o b' q:Nat)(hn:cI s l=true)(hg:cE s (.pointer none) l=.pointer (some ⟨b',q,none⟩)):
    bC Tryz.prog 147 [.d (.lit (.map (some m))),.bp b o 0] [mx m false (dK l),.box b o (jH s v i lo hi),.box b' q (jH s v' i' lo' hi')]
    (λr' o'=>r'=.tup []/\o'=[mx m false (dK l),.box b o (jH s v i lo hi),.box b' q (jH s v' i' (min lo' lo) (max hi' hi))]):=by
 refine fng xT {nd:=[12]} true [(b,o,undef),(m,0,undef),(b',q,undef)] [.d (.hv 1 100001 0),.bp 100000 0 0] [(100001,.map false (dK l)),(100000,.box (jH s v i lo hi)),(100002,.box (jH s v' i' lo' hi'))] [] Tryz.func147 Tryz.results147 Tryz.ntmps147 ?_;refine cGw (a:=s) 100002 bBp Tryz.underlying118 Tryz.zeroValue220 (mO (enc:=qL) s rfl) hn hg ?_;refine ob2 (λ_=>?_) λh=>by cases h
 refine⟨by kernel_rfl,?_⟩;refine cGx ?_;refine bWz ?_;refine⟨by kernel_rfl,?_⟩;exact⟨.inl rfl,[100001,100000,100002],λ_ _ _=>⟨rfl,by kernel_rfl⟩⟩
def lL(x:dB)(s:aW):Option Bool:=
 bif decide (x.Kind=3) then some (decide ((⟨s.pa,s.pb⟩:aJ)=x.Pair)) else
 bif decide (x.Kind=4) then(bif decide ((⟨s.ga,s.gb⟩:aJ)=x.Pair) then some (decide ((⟨s.pa,s.pb⟩:aJ)=⟨0,0⟩)) else some false).bind λb=>some b
 else none
theorem bGp(s:aW)(v:Value)(i lo hi:Int)(l:List dB)(x:dB)(b o:Nat){r:Bool}(h:lL x s=some r):bC Tryz.prog 149 [.agg (rdC l),.agg (lN x),.bp b o 0] [.box b o (jH s v i lo hi)]
    (λr' o'=>r'=.b r/\o'=[.box b o (jH s v i lo hi)]):=by
 unfold lL at h;refine fng xT {} false [(b,o,undef)] [.agg (rdC l),.agg (lN x),.bp 100000 0 0] [(100000,.box (jH s v i lo hi))] [.tmp 6] Tryz.func149 Tryz.results149 Tryz.ntmps149 ?_;refine br h (λh=>?_) λh=>?_
 · refine⟨by kernel_rfl,?_⟩
   refine aWk (a:=(⟨s.pa,s.pb⟩:aJ)) (b:=x.Pair) Tryz.eqGuardType124 aLw ?_;refine⟨by kernel_rfl,?_⟩;cases h;exact⟨rfl,[100000],λ_ _ _=>⟨rfl,by kernel_rfl⟩⟩
 · refine br h (λh=>?_) λh=>by cases h
   refine⟨by kernel_rfl,?_⟩;refine aWk (a:=(⟨s.ga,s.gb⟩:aJ)) (b:=x.Pair) Tryz.eqGuardType124 aLw ?_;refine jo h (λy h=>?_) λb2 h=>?_
   · refine br h (λh=>?_) λh=>?_
     · refine aWk (a:=(⟨s.pa,s.pb⟩:aJ)) (b:=(⟨0,0⟩:aJ)) Tryz.eqGuardType124 aLw ?_
       exact⟨by kernel_rfl,jt h⟩
     · exact⟨by kernel_rfl,jt h⟩
   refine⟨by kernel_rfl,?_⟩;cases h;exact⟨rfl,[100000],λ_ _ _=>⟨rfl,by kernel_rfl⟩⟩
end Go.Am
