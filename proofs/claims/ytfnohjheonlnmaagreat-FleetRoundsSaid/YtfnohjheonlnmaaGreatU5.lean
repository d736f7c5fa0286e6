/- What the laws of this claim rest on: the abstract executor, its soundness, and what the functions compute on pure data. No condition. -/
import Derived.Test.YtfnohjheonlnmaaGreatU4
import Derived.Shelf.SlSortCmp.NoneTotal
import Derived.Ground.SlsfProg
import Derived.Test.YtfnohjheonlnmaaGreatProg
noncomputable section
set_option linter.unusedVariables false
set_option linter.unusedSimpArgs false
namespace Go.Proofs.YtfnohjheonlnmaaGreat
open Go.ez
set_option linter.unusedSimpArgs false
set_option linter.unusedVariables false
set_option maxRecDepth 20000
set_option maxHeartbeats 4000000
def pC(l:List bF)(k:Nat):Option Int:=if k=0 then none else(l[k-1]?).map bF.t
theorem vw(l:List bF)(hl:l.length<=4611686018427387904):bh Tryz.prog 209 [.aD (l.map bF.enc)] (· = .bool (dD l)):=by refine aF tK mixed Tryz.func209 ?_;unfold Tryz.f209;simp-implicitDefEqProofs (disch:=first|omega|decide) only[go_sem,↓reduceIte,seval,aa];refine aQ [0,5,6] (ι:={k:Nat//k<=l.length/\dD l=QV (pC l k) (l.drop k)/\ ∀h:k-1<l.length,0<k->fJ l[k-1]=true}) (fun p=>[(7,.int .i64 p.1),(2,.bool false)]) (fun _=>[]) (fun p=>l.length-p.1) ⟨0,by omega,rfl,fun _ h=>absurd h (by omega)⟩ (ak _) ?_ ?_;{simp-implicitDefEqProofs (disch:=first|omega|decide) only[go_sem,↓reduceIte,seval]};{rintro⟨k,hk,hd,hp⟩;simp only;by_cases bf:k<l.length;{(have ax:(k:Int)<(l.length:Int):=by omega);have e1:=run_get bf;(have FC:pC l (k+1)=some l[k].t:=by unfold pC;rw[if_neg (by omega),show k+1-1=k by omega,ad bf];rfl);rw[ao bf]at hd;simp only[QV]at hd;have next:dD l=QV (some l[k].t) (l.drop (k+1))->fJ l[k]=true-> ∃j:{k:Nat//k<=l.length/\dD l=QV (pC l k) (l.drop k)/\ ∀h:k-1<l.length,0<k->fJ l[k-1]=true},(k:Int)+1=(j.1:Int)/\l.length-j.1<l.length-k:=fun h h'=>⟨⟨k+1,bf,by rw[FC];exact h,fun _ _=>h'⟩,by simp,by show l.length-(k+1)<l.length-k;omega⟩;generalize hx:l[k]=x at*;obtain⟨f,t⟩:=x;cases h1:fJ ⟨f,t⟩with|false=>((have hh:dD l=false:=by rw[hd,h1];rfl);simp-implicitDefEqProofs (disch:=first|omega|decide) only[go_sem,↓reduceIte,seval,ax,e1,h1,hh,wrap_i64,aa])|true=>(obtain⟨o1,o2,o3⟩:=ny h1;simp only at o1 o2 o3;by_cases h0:0<k;{(have yV:(0:Int)<(k:Int):=by omega);(have mW:k-1<l.length:=by omega);have e0:=run_get mW;have hpo:=hp mW h0;(have hpt:pC l k=some l[k-1].t:=by unfold pC;rw[if_neg (by omega),ad mW];rfl);(have t0:((k:Int)-1).toNat=k-1:=by omega);(have b0:(0:Int)<=(k:Int)-1:=by omega);(have b1:(k:Int)-1<(l.length:Int):=by omega);rw[hpt]at hd;generalize hy:l[k-1]=y at*;obtain⟨f',t'⟩:=y;obtain⟨p1,p2,p3⟩:=ny hpo;simp only at p1 p2 p3 hd;by_cases h2:f-t'<2;{(have hh:dD l=false:=by rw[hd];(have: ¬t'+2<=f:=by omega);simp[this]);simp-implicitDefEqProofs (disch:=first|omega|decide) only[go_sem,↓reduceIte,seval,ax,e1,e0,h1,yV,t0,b0,b1,h2,hh,wrap_i64,aa]};{simp-implicitDefEqProofs (disch:=first|omega|decide) only[go_sem,↓reduceIte,seval,ax,e1,e0,h1,yV,t0,b0,b1,h2,wrap_i64,aa];(have h3:t'+2<=f:=by omega);exact next (by rw[hd,h1];simp[h3]) h1}};{(have yV: ¬(0:Int)<(k:Int):=by omega);simp-implicitDefEqProofs (disch:=first|omega|decide) only[go_sem,↓reduceIte,seval,ax,e1,h1,yV,wrap_i64,aa];(have zg:k=0:=by omega);exact next (by rw[hd,h1];simp[pC,zg]) h1})};{(have ax: ¬(k:Int)<(l.length:Int):=by omega);(have hh:dD l=true:=by rw[hd,ay (by omega)];cases pC l k<;>rfl);simp-implicitDefEqProofs (disch:=first|omega|decide) only[go_sem,↓reduceIte,seval,ax,hh,aa]}}
theorem HZ(l:List bF)(hl:l.length<=4611686018427387904):bh Tryz.prog 194 [.aD (l.map bF.enc)] (· = .bool (dD l)):=by refine aF tK mixed Tryz.func194 ?_;unfold Tryz.f194;simp-implicitDefEqProofs (disch:=first|omega|decide) only[go_sem,↓reduceIte,seval,aa];refine aQ [0] (ι:={k:Nat//k<=l.length/\dD l=QV (pC l k) (l.drop k)/\ ∀h:k-1<l.length,0<k->fJ l[k-1]=true}) (fun p=>[(3,.int .i64 p.1),(2,.bool false)]) (fun _=>[]) (fun p=>l.length-p.1) ⟨0,by omega,rfl,fun _ h=>absurd h (by omega)⟩ (ak _) ?_ ?_;{simp-implicitDefEqProofs (disch:=first|omega|decide) only[go_sem,↓reduceIte,seval]};{rintro⟨k,hk,hd,hp⟩;simp only;by_cases bf:k<l.length;{(have ax:(k:Int)<(l.length:Int):=by omega);have e1:=run_get bf;(have FC:pC l (k+1)=some l[k].t:=by unfold pC;rw[if_neg (by omega),show k+1-1=k by omega,ad bf];rfl);rw[ao bf]at hd;simp only[QV]at hd;have next:dD l=QV (some l[k].t) (l.drop (k+1))->fJ l[k]=true-> ∃j:{k:Nat//k<=l.length/\dD l=QV (pC l k) (l.drop k)/\ ∀h:k-1<l.length,0<k->fJ l[k-1]=true},(k:Int)+1=(j.1:Int)/\l.length-j.1<l.length-k:=fun h h'=>⟨⟨k+1,bf,by rw[FC];exact h,fun _ _=>h'⟩,by simp,by show l.length-(k+1)<l.length-k;omega⟩;generalize hx:l[k]=x at*;obtain⟨f,t⟩:=x;cases h1:fJ ⟨f,t⟩with|false=>((have hh:dD l=false:=by rw[hd,h1];rfl);simp-implicitDefEqProofs (disch:=first|omega|decide) only[go_sem,↓reduceIte,seval,ax,e1,h1,hh,wrap_i64,aa])|true=>(obtain⟨o1,o2,o3⟩:=ny h1;simp only at o1 o2 o3;by_cases h0:0<k;{(have yV:(0:Int)<(k:Int):=by omega);(have mW:k-1<l.length:=by omega);have e0:=run_get mW;have hpo:=hp mW h0;(have hpt:pC l k=some l[k-1].t:=by unfold pC;rw[if_neg (by omega),ad mW];rfl);(have t0:((k:Int)-1).toNat=k-1:=by omega);(have b0:(0:Int)<=(k:Int)-1:=by omega);(have b1:(k:Int)-1<(l.length:Int):=by omega);rw[hpt]at hd;generalize hy:l[k-1]=y at*;obtain⟨f',t'⟩:=y;obtain⟨p1,p2,p3⟩:=ny hpo;simp only at p1 p2 p3 hd;by_cases h2:f<t'+2;{(have hh:dD l=false:=by rw[hd];(have: ¬t'+2<=f:=by omega);simp[this]);simp-implicitDefEqProofs (disch:=first|omega|decide) only[go_sem,↓reduceIte,seval,ax,e1,e0,h1,yV,t0,b0,b1,h2,hh,wrap_i64,aa]};{simp-implicitDefEqProofs (disch:=first|omega|decide) only[go_sem,↓reduceIte,seval,ax,e1,e0,h1,yV,t0,b0,b1,h2,wrap_i64,aa];(have h3:t'+2<=f:=by omega);exact next (by rw[hd,h1];simp[h3]) h1}};{(have yV: ¬(0:Int)<(k:Int):=by omega);simp-implicitDefEqProofs (disch:=first|omega|decide) only[go_sem,↓reduceIte,seval,ax,e1,h1,yV,wrap_i64,aa];(have zg:k=0:=by omega);exact next (by rw[hd,h1];simp[pC,zg]) h1})};{(have ax: ¬(k:Int)<(l.length:Int):=by omega);(have hh:dD l=true:=by rw[hd,ay (by omega)];cases pC l k<;>rfl);simp-implicitDefEqProofs (disch:=first|omega|decide) only[go_sem,↓reduceIte,seval,ax,hh,aa]}}
theorem Oi(l:List bF)(n:Int)(hl:l.length<=4611686018427387904):bh Tryz.prog 183 [.aD (l.map bF.enc),.int .i64 n] (· = .bool (aX l n)):=by refine aF tK mixed Tryz.func183 ?_;unfold Tryz.f183;simp-implicitDefEqProofs (disch:=first|omega|decide) only[go_sem,↓reduceIte,seval,aa];refine aQ [0,1] (ι:={k:Nat//k<=l.length/\aX l n=aX (l.drop k) n}) (fun p=>[(5,.int .i64 p.1),(4,.bool false)]) (fun _=>[]) (fun p=>l.length-p.1) ⟨0,by omega,rfl⟩ (ak _) ?_ ?_;{simp-implicitDefEqProofs (disch:=first|omega|decide) only[go_sem,↓reduceIte,seval]};{rintro⟨k,hk,hd⟩;simp only;by_cases bf:k<l.length;{(have ax:(k:Int)<(l.length:Int):=by omega);have e1:=run_get bf;rw[ao bf]at hd;generalize hx:l[k]=x at*;obtain⟨f,t⟩:=x;simp only[aX,cw]at hd;have next:aX l n=aX (l.drop (k+1)) n-> ∃j:{k:Nat//k<=l.length/\aX l n=aX (l.drop k) n},(k:Int)+1=(j.1:Int)/\l.length-j.1<l.length-k:=fun h=>⟨⟨k+1,bf,h⟩,by simp,by show l.length-(k+1)<l.length-k;omega⟩;cases h1:fJ ⟨f,t⟩with|false=>(simp-implicitDefEqProofs (disch:=first|omega|decide) only[go_sem,↓reduceIte,seval,ax,e1,h1,wrap_i64,aa];exact next (by rw[h1]at hd;simpa[aX]using hd))|true=>(by_cases h2:f<=n;{by_cases h3:n<=t;{(have hh:aX l n=true:=by unfold aX;rw[hd];simp[h1,h2,h3]);simp-implicitDefEqProofs (disch:=first|omega|decide) only[go_sem,↓reduceIte,seval,ax,e1,h1,h2,h3,hh,wrap_i64,aa]};{simp-implicitDefEqProofs (disch:=first|omega|decide) only[go_sem,↓reduceIte,seval,ax,e1,h1,h2,h3,wrap_i64,aa];exact next (by rw[h1]at hd;simpa[aX,h2,h3]using hd)}};{simp-implicitDefEqProofs (disch:=first|omega|decide) only[go_sem,↓reduceIte,seval,ax,e1,h1,h2,wrap_i64,aa];exact next (by rw[h1]at hd;simpa[aX,h2]using hd)})};{(have ax: ¬(k:Int)<(l.length:Int):=by omega);(have hh:aX l n=false:=by rw[hd,ay (by omega)];rfl);simp-implicitDefEqProofs (disch:=first|omega|decide) only[go_sem,↓reduceIte,seval,ax,hh,aa]}}
def QW(r:bF)(n:Int):Bool:=decide (r.f<=n)&&decide (n<=r.t)
def RR:List bF->Prop| []=>True| [r]=>fJ r=true|r::q::l=>fJ r=true/\q.t+2<=r.f/\RR (q::l)
theorem fK{r:bF}:fJ r=true ↔ 1<=r.f/\r.f<=r.t/\r.t<=1099511627776:=by simp[fJ,and_assoc]
theorem Oj: ∀(l:List bF) (p:Option Int) (q r:bF),QV p (l++[q,r])=(QV p (l++[q])&&(fJ r&&decide (q.t+2<=r.f)))| [],p,q,r=>by cases p<;>simp[QV,eA]|x::l,p,q,r=>by simp only[bB,QV,Oj l (some x.t) q r,eA]
theorem wH: ∀{l:List bF},dD l.reverse=true ↔ RR l| []=>by simp[dD,QV,RR]| [r]=>by simp[dD,QV,RR]|r::q::l=>by have ih:= @wH (q::l);simp only[gT,aV,bB,bw,dD]at ih⊢;rw[Oj,ag,ih,RR,ag,decide_eq_true_iff];exact⟨fun⟨a,b,c⟩=>⟨b,c,a⟩,fun⟨b,c,a⟩=>⟨a,b,c⟩⟩
theorem qi{l:List bF}:dD l=true ↔ RR l.reverse:=by have:= @wH l.reverse;rwa [eO]at this
theorem zO{r:bF}: ∀{l:List bF},RR (r::l)->RR l| [],_=>trivial|_::_,h=>h.2.2
theorem kr{r:bF}: ∀{l:List bF},RR (r::l)->fJ r=true| [],h=>h|_::_,h=>h.1
theorem rr_all: ∀{l:List bF},RR l-> ∀r∈l,fJ r=true| [],_,r,hr=>by cases hr|q::l,h,r,hr=>by rcases aA.1 hr with rfl|hr;{exact kr h};{exact rr_all (zO h) r hr}
theorem vx: ∀{l:List bF} {r:bF},RR (r::l)-> ∀q∈l,q.t+2<=r.f| [],_,_,q,hq=>by cases hq|p::l,r,h,q,hq=>by rcases aA.1 hq with rfl|hq;{exact h.2.1};{have h1:=vx h.2.2 q hq;have h2:=fK.1 (kr h.2.2);have h3:=h.2.1;omega}
theorem vy(r:bF)(l:List bF)(n:Int):aX (r::l) n=(fJ r&&QW r n||aX l n):=by simp[aX,QW,eA]
theorem wI(n:Int):aX [] n=false:=rfl
theorem lB(l m:List bF)(n:Int):aX (l++m) n=(aX l n||aX m n):=by simp[aX]
theorem wJ(l:List bF)(n:Int):aX l.reverse n=aX l n:=by simp[aX]
theorem jt{l:List bF}{n:Int}:aX l n=true ↔∃r∈l,fJ r=true/\r.f<=n/\n<=r.t:=by simp[aX,and_assoc]
theorem Xm{l:List bF}{n:Int}(h:aX l n=true):1<=n/\n<=1099511627776:=by obtain⟨r,_,h1,h2,h3⟩:=jt.1 h;have:=fK.1 h1;omega
theorem has_perm{l m:List bF}(h:l.Perm m)(n:Int):aX l n=aX m n:=by rw[bI,jt,jt];exact⟨fun⟨r,hr,h1⟩=>⟨r,h.mem_iff.1 hr,h1⟩,fun⟨r,hr,h1⟩=>⟨r,h.mem_iff.2 hr,h1⟩⟩
theorem R_(l:List bF)(n:Int):aX (l.filter fJ) n=aX l n:=by rw[bI,jt,jt];exact⟨fun⟨r,hr,h1⟩=>⟨r,(aT.1 hr).1,h1⟩,fun⟨r,hr,h1⟩=>⟨r,aT.2 ⟨hr,h1.1⟩,h1⟩⟩
theorem Sa{r:bF}{l:List bF}(h:RR (r::l)): ∀n,aX (r::l) n=true->n<=r.t:=fun n hn=>by obtain⟨q,hq,h1,h2,h3⟩:=jt.1 hn;rcases aA.1 hq with rfl|hq;{exact h3};{have:=vx h q hq;have:=fK.1 (kr h);omega}
theorem rr_has{r:bF}{l:List bF}(h:RR (r::l))(n:Int):aX l n=(aX (r::l) n&&decide (n+2<=r.f)):=by rw[bI,ag,decide_eq_true_iff,jt,jt];constructor;{rintro⟨q,hq,h1,h2,h3⟩;have:=vx h q hq;exact⟨⟨q,cu _ hq,h1,h2,h3⟩,by omega⟩};{rintro⟨⟨q,hq,h1,h2,h3⟩,h4⟩;rcases aA.1 hq with rfl|hq;{omega};{exact⟨q,hq,h1,h2,h3⟩}}
theorem Jm: ∀{l m:List bF},RR l->RR m->(∀n,aX l n=aX m n)->l=m| [],[],_,_,_=>rfl| [],r::m,_,h,hm=>by have h1:=fK.1 (kr h);have h2:aX (r::m) r.t=true:=jt.2 ⟨r,by simp,kr h,h1.2.1,cO _⟩;rw[<-hm]at h2;cases h2|r::l,[],h,_,hm=>by have h1:=fK.1 (kr h);have h2:aX (r::l) r.t=true:=jt.2 ⟨r,by simp,kr h,h1.2.1,cO _⟩;rw[hm]at h2;cases h2|r::l,q::m,h,h',hm=>by have o1:=fK.1 (kr h);have o2:=fK.1 (kr h');have a1:aX (r::l) r.t=true:=jt.2 ⟨r,by simp,kr h,o1.2.1,cO _⟩;have a2:aX (q::m) q.t=true:=jt.2 ⟨q,by simp,kr h',o2.2.1,cO _⟩;rw[hm]at a1;rw[<-hm]at a2;have b1:=Sa h' _ a1;have b2:=Sa h _ a2;(have et:r.t=q.t:=by omega);(have key: ∀{r q:bF} {l m:List bF},RR (r::l)->RR (q::m)->(∀n,aX (r::l) n=aX (q::m) n)->r.t=q.t->r.f<=q.f:=by intro r q l m h h' hm et;rcases Int.lt_or_le q.f r.f with bf|hle;{exfalso;have o1:=fK.1 (kr h);have o2:=fK.1 (kr h');have c1:aX (q::m) (r.f-1)=true:=jt.2 ⟨q,by simp,kr h',by omega,by omega⟩;rw[<-hm]at c1;obtain⟨p,hp,h1,h2,h3⟩:=jt.1 c1;rcases aA.1 hp with rfl|hp;{omega};{have:=vx h p hp;omega}};{exact hle});(have ef:r.f=q.f:=by have:=key h h' hm et;have:=key h' h (fun n=>(hm n).symm) et.symm;omega);(have e:r=q:=by cases r;cases q;simp_all);subst e;rw[Jm (zO h) (zO h') fun n=>by rw[rr_has h,rr_has h',hm]]
theorem KW{l m:List bF}(h:dD l=true)(h':dD m=true)(hm: ∀n,aX l n=aX m n):l=m:=by have:=Jm (qi.1 h) (qi.1 h') (fun n=>by rw[wJ,wJ,hm]);simpa using this
open Classical in /-- The right list of what is meant, if there is one. -/def fV(p:Int->Bool):List bF:=if h: ∃l,dD l=true/\ ∀n,aX l n=p n then Classical.choose h else []
def IsR(p:Int->Bool):Prop:= ∃l,dD l=true/\ ∀n,aX l n=p n
theorem mq(p:Int->Bool):dD (fV p)=true:=by unfold fV;split;{rename_i h;exact(dd h).1};{rfl}
theorem ss{p:Int->Bool}(h:IsR p)(n:Int):aX (fV p) n=p n:=by unfold fV;rw[dif_pos (show∃l,dD l=true/\ ∀n,aX l n=p n from h)];exact(dd h).2 n
theorem wK{p:Int->Bool}{l:List bF}(h:dD l=true)(hp: ∀n,aX l n=p n):l=fV p:=KW h (mq p) fun n=>by rw[hp,ss ⟨l,h,hp⟩]
def gj:List bF->bF->List bF| [],r=>[r]|q::qs,r=>if r.f<q.t+2 then⟨q.f,if r.t>q.t then r.t else q.t⟩::qs else r::q::qs
def lowF(l:List bF)(x:Int):Prop:=match l with| []=>True|q::_=>q.f<=x
theorem CQ{l:List bF}{r:bF}(h:RR l)(hr:fJ r=true)(hf:lowF l r.f):RR (gj l r)/\lowF (gj l r) r.f/\ ∀n,aX (gj l r) n=(aX l n||QW r n):=by cases l with|nil=>(exact⟨hr,cO _,fun n=>by simp[gj,aX,hr,QW]⟩)|cons q qs=>(have o1:=fK.1 hr;have o2:=fK.1 (kr h);have Um:q.f<=r.f:=hf;simp only[gj];by_cases hc:r.f<q.t+2;{rw[if_pos hc];generalize ht:(if r.t>q.t then r.t else q.t)=t;(have ht':(t=r.t/\q.t<r.t)\/(t=q.t/\r.t<=q.t):=by split at ht<;>omega);have ho:fJ ⟨q.f,t⟩=true:=fK.2 ⟨o2.1,by show q.f<=t;omega,by show t<=_;omega⟩;refine⟨?_,Um,fun n=> ?_⟩;{cases qs with|nil=>(exact ho)|cons p ps=>(exact⟨ho,h.2.1,h.2.2⟩)};{rw[vy,vy,ho,kr h];(have:QW ⟨q.f,t⟩ n=(QW q n||QW r n):=by rw[bI];simp only[QW,ag,bA,decide_eq_true_iff];omega);rw[this];simp only[aG];cases QW q n<;>cases QW r n<;>cases aX qs n<;>rfl}};{rw[if_neg hc];refine⟨⟨hr,by omega,h⟩,cO _,fun n=> ?_⟩;rw[vy,hr];simp only[aG];cases QW r n<;>cases aX (q::qs) n<;>rfl})
theorem Jn(l:List bF)(r:bF):(gj l r).length<=l.length+1:=by cases l with|nil=>(simp[gj])|cons q qs=>(simp only[gj];split<;>simp)
theorem fold_push: ∀{l:List bF} {a:List bF},RR a->(∀r∈l,fJ r=true)->l.Pairwise (fun x y=>x.f<=y.f)->(∀r∈l,lowF a r.f)->RR (l.foldl gj a)/\ ∀n,aX (l.foldl gj a) n=(aX a n||aX l n)| [],a,h,_,_,_=>⟨h,fun n=>by simp[aX]⟩|r::l,a,h,ho,hs,hf=>by obtain⟨h1,h2,h3⟩:=CQ h (ho r (by simp)) (hf r (by simp));rw[aU]at hs;obtain⟨h4,h5⟩:=fold_push (l:=l) h1 (fun q hq=>ho q (by simp[hq])) hs.2 (fun q hq=>by have:=hs.1 q hq;revert h2;cases gj a r with|nil=>(intro _;trivial)|cons p ps=>(intro h2;exact Int.le_trans h2 this));refine⟨h4,fun n=> ?_⟩;rw[bM,h5,h3,vy,ho r (by simp)];simp only[aG,Bool.or_assoc]
theorem H0{l:List bF}(ho: ∀r∈l,fJ r=true)(hs:l.Pairwise (fun x y=>x.f<=y.f)):(l.foldl gj []).reverse=fV (aX l):=by obtain⟨h1,h2⟩:=fold_push (a:=[]) trivial ho hs (fun _ _=>trivial);exact wK (wH.2 h1) fun n=>by rw[wJ,h2];simp[aX]
end Go.Proofs.YtfnohjheonlnmaaGreat
namespace Go.Proofs.YtfnohjheonlnmaaGreat
open Go.ez
set_option linter.unusedSimpArgs false
set_option linter.unusedVariables false
def nS:List Int->Int->List Int| [],n=>[n]|x::xs,n=>if x<n then x::nS xs n else if x=n then x::xs else n::x::xs
theorem zP(l:List Int)(n:Int):(nS l n).length<=l.length+1:=by induction l with|nil=>(simp[nS])|cons x xs ih=>(simp only[nS];split;{simp;omega};{split<;>simp})
theorem UK(l:List Int)(n:Int):nS l n≠ []:=by cases l with|nil=>(simp[nS])|cons x xs=>(simp only[nS];split;{simp};{split<;>simp})
theorem FD(l:List Int)(n x:Int):x∈nS l n ↔ x=n\/x∈l:=by induction l with|nil=>(simp[nS])|cons y ys ih=>(simp only[nS];split;{rw[aA,ih,aA];exact⟨fun h=>by rcases h with h|h|h<;>simp[h],fun h=>by rcases h with h|h|h<;>simp[h]⟩};{split;{rename_i h1 h2;subst h2;simp};{simp}})
theorem UL{l:List Int}{n:Int}(h:l.Pairwise (· < ·)):(nS l n).Pairwise (· < ·):=by induction l with|nil=>(simp[nS])|cons y ys ih=>(rw[aU]at h;simp only[nS];split;{rename_i h1;rw[aU];refine⟨fun x hx=> ?_,ih h.2⟩;rcases(FD ys n x).1 hx with rfl|hx;{exact h1};{exact h.1 x hx}};{split;{exact aU.2 h};{rename_i h1 h2;rw[aU];refine⟨fun x hx=> ?_,aU.2 h⟩;rcases aA.1 hx with rfl|hx;{omega};{have:=h.1 x hx;omega}}})
def jh:List Int->List bF->List Int|e,[]=>e|e,r::rs=>jh (if fJ r then nS (nS e r.f) (r.t+1)else e) rs
theorem tL(e:List Int)(l:List bF):(jh e l).length<=e.length+2*l.length:=by induction l generalizing e with|nil=>(simp[jh])|cons r rs ih=>(simp only[jh,aw];refine a_ (ih _) ?_;split;{have h1:=zP e r.f;have h2:=zP (nS e r.f) (r.t+1);omega};{omega})
theorem CR(e:List Int)(l:List bF)(r:bF):jh e (l++[r])=if fJ r then nS (nS (jh e l) r.f) (r.t+1)else jh e l:=by induction l generalizing e with|nil=>(simp[jh])|cons q rs ih=>(simp only[bB,jh];exact ih _)
theorem Jo{e:List Int}{l:List bF}(h:e.Pairwise (· < ·)):(jh e l).Pairwise (· < ·):=by induction l generalizing e with|nil=>(exact h)|cons r rs ih=>(simp only[jh];apply ih;split;{exact UL (UL h)};{exact h})
theorem FE{l:List bF}{x:Int}: ∀{e:List Int},x∈jh e l ↔ x∈e\/ ∃r∈l,fJ r=true/\(x=r.f\/x=r.t+1):=by induction l with|nil=>(intro e;simp[jh])|cons r rs ih=>(intro e;simp only[jh];rw[ih];cases h:fJ r with|false=>(rw[if_neg (by simp)];constructor;{rintro(h1|⟨q,hq,h2⟩);{exact .inl h1};{exact .inr ⟨q,by simp[hq],h2⟩}};{rintro(h1|⟨q,hq,h2⟩);{exact .inl h1};{rcases aA.1 hq with rfl|hq;{rw[h]at h2;simp at h2};{exact .inr ⟨q,hq,h2⟩}}})|true=>(rw[if_pos rfl,FD,FD];constructor;{rintro((h1|h1|h1)|⟨q,hq,h2⟩);{exact .inr ⟨r,by simp,h,.inr h1⟩};{exact .inr ⟨r,by simp,h,.inl h1⟩};{exact .inl h1};{exact .inr ⟨q,by simp[hq],h2⟩}};{rintro(h1|⟨q,hq,h2⟩);{exact .inl (.inr (.inr h1))};{rcases aA.1 hq with rfl|hq;{rcases h2.2 with h3|h3;{exact .inl (.inr (.inl h3))};{exact .inl (.inl h3)}};{exact .inr ⟨q,hq,h2⟩}}}))
def dh(a b:List bF):List Int:=jh (jh [] a) b
theorem oJ(a b:List bF):(dh a b).Pairwise (· < ·):=Jo (Jo List.Pairwise.nil)
theorem na{a b:List bF}{x:Int}:x∈dh a b ↔∃r∈a++b,fJ r=true/\(x=r.f\/x=r.t+1):=by unfold dh;rw[FE,FE];constructor;{rintro((h|⟨r,hr,h⟩)|⟨r,hr,h⟩);{cases h};{exact⟨r,by simp[hr],h⟩};{exact⟨r,by simp[hr],h⟩}};{rintro⟨r,hr,h⟩;rcases az.1 hr with hr|hr;{exact .inl (.inr ⟨r,hr,h⟩)};{exact .inr ⟨r,hr,h⟩}}
theorem tN{a b:List bF}{x:Int}(h:x∈dh a b):1<=x/\x<=1099511627777:=by obtain⟨r,_,h1,h2⟩:=na.1 h;have:=fK.1 h1;omega
theorem FF(a b:List bF):(dh a b).length<=2*a.length+2*b.length:=by have h1:=tL [] a;have h2:=tL (jh [] a) b;simp only[bm]at h1;unfold dh;omega
theorem Ol{l:List bF}{x n:Int}(hx:x<=n)(h: ∀r∈l,fJ r=true-> ¬(x<r.f/\r.f<=n)/\ ¬(x<r.t+1/\r.t+1<=n)):aX l n=aX l x:=by rw[bI,jt,jt];constructor;{rintro⟨r,hr,h1,h2,h3⟩;have:=h r hr h1;exact⟨r,hr,h1,by omega,by omega⟩};{rintro⟨r,hr,h1,h2,h3⟩;have:=h r hr h1;exact⟨r,hr,h1,by omega,by omega⟩}
def opF(op:Int)(x y:Bool):Bool:=if op=1 then x||y else if op=2 then x&&y else x&& !y
theorem opF_ff(op:Int):opF op false false=false:=by unfold opF;split<;>(try split)<;>rfl
def nI(op:Int)(a b:List bF)(n:Int):Bool:=opF op (aX a n) (aX b n)
section
variable{op:Int}{a b:List bF}
theorem opP_flat{x n:Int}(hx:x<=n)(h: ∀y∈dh a b,¬(x<y/\y<=n)):nI op a b n=nI op a b x:=by have e1:aX a n=aX a x:=Ol hx fun r hr h1=>⟨h _ (na.2 ⟨r,by simp[hr],h1,.inl rfl⟩),h _ (na.2 ⟨r,by simp[hr],h1,.inr rfl⟩)⟩;have e2:aX b n=aX b x:=Ol hx fun r hr h1=>⟨h _ (na.2 ⟨r,by simp[hr],h1,.inl rfl⟩),h _ (na.2 ⟨r,by simp[hr],h1,.inr rfl⟩)⟩;unfold nI;rw[e1,e2]
theorem KX{n:Int}(h: ∀y∈dh a b,n<y):nI op a b n=false:=by (have e: ∀l:List bF,(∀r∈l,r∈a++b)->aX l n=false:=fun l hl=>by rw[<-dv,jt];rintro⟨r,hr,h1,h2,h3⟩;have:=h _ (na.2 ⟨r,hl r hr,h1,.inl rfl⟩);omega);unfold nI;rw[e a (fun r hr=>by simp[hr]),e b (fun r hr=>by simp[hr]),opF_ff]
theorem Om{n:Int}(h: ∀y∈dh a b,y<=n):nI op a b n=false:=by (have e: ∀l:List bF,(∀r∈l,r∈a++b)->aX l n=false:=fun l hl=>by rw[<-dv,jt];rintro⟨r,hr,h1,h2,h3⟩;have:=h _ (na.2 ⟨r,hl r hr,h1,.inr rfl⟩);omega);unfold nI;rw[e a (fun r hr=>by simp[hr]),e b (fun r hr=>by simp[hr]),opF_ff]
end
def Bt(P:Int->Bool)(e:List Int):Nat->List bF|0=>[]|k+1=>if P (e[k]!)then gj (Bt P e k) ⟨e[k]!,e[k+1]! -1⟩else Bt P e k
def topT(l:List bF)(x:Int):Prop:=match l with| []=>True|q::_=>q.t<x
theorem KY(P:Int->Bool)(e:List Int): ∀k,(Bt P e k).length<=k|0=>ae _|k+1=>by have h1:=KY P e k;have h2:=Jn (Bt P e k) ⟨e[k]!,e[k+1]! -1⟩;simp only[Bt];split<;>omega
theorem yn{e:List Int}(h:e.Pairwise (· < ·)){i j:Nat}(Bj:i<j)(hj:j<e.length):e[i]! <e[j]! :=by rw[getElem!_pos e i (by omega),getElem!_pos e j hj];exact cm.1 h i j (by omega) hj Bj
theorem top_push{l:List bF}{r:bF}(h:topT l r.f)(hr:r.f<=r.t):topT (gj l r) (r.t+1):=by cases l with|nil=>(show r.t<r.t+1;omega)|cons q qs=>(have h':q.t<r.f:=h;simp only[gj];split;{show(if r.t>q.t then r.t else q.t)<r.t+1;split<;>omega};{show r.t<r.t+1;omega})
theorem zQ(op:Int)(a b:List bF): ∀k,k<(dh a b).length->RR (Bt (nI op a b) (dh a b) k)/\topT (Bt (nI op a b) (dh a b) k) ((dh a b)[k]!)/\lowF (Bt (nI op a b) (dh a b) k) ((dh a b)[k]!)/\∀n,aX (Bt (nI op a b) (dh a b) k) n=(decide (n<(dh a b)[k]!)&&nI op a b n)|0,hk=>by refine⟨trivial,trivial,trivial,fun n=> ?_⟩;by_cases h:n<(dh a b)[0]!;{rw[KX];{show aX [] n=_;rw[wI,bY]};intro y hy;obtain⟨i,hi,rfl⟩:=dU.1 hy;have:(dh a b)[i]! =(dh a b)[i]:=getElem!_pos _ i hi;rcases Nat.eq_zero_or_pos i with rfl|hp;{omega};{have:=yn (oJ a b) hp hi;omega}};{show aX [] n=_;rw[wI,decide_eq_false h,aO]}|k+1,hk=>by obtain⟨h1,h2,h3,h4⟩:=zQ op a b k (by omega);have bf:=yn (oJ a b) (kC k) hk;have r1:=tN (a:=a) (b:=b) (x:=(dh a b)[k]!) (by rw[getElem!_pos _ k (by omega)];exact aj _);have r2:=tN (a:=a) (b:=b) (x:=(dh a b)[k+1]!) (by rw[getElem!_pos _ (k+1) hk];exact aj _);(have flat: ∀n,(dh a b)[k]! <=n->n<(dh a b)[k+1]! ->nI op a b n=nI op a b ((dh a b)[k]!):=fun n hn nH=>opP_flat hn fun y hy=>by obtain⟨i,hi,rfl⟩:=dU.1 hy;have e:(dh a b)[i]! =(dh a b)[i]:=getElem!_pos _ i hi;rintro⟨g1,g2⟩;rcases Nat.lt_trichotomy i (k+1)with hh|hh|hh;{rcases fR (Nat.lt_succ_iff.1 hh)with hh'|hh';{have:=yn (oJ a b) hh' (by omega);omega};{subst hh';omega}};{subst hh;omega};{have:=yn (oJ a b) hh hi;omega});simp only[Bt];generalize hx:(dh a b)[k]! =x at*;generalize hy:(dh a b)[k+1]! =y at*;generalize hm:Bt (nI op a b) (dh a b) k=m at*;cases hp:nI op a b x with|false=>(rw[if_neg (by simp)];refine⟨h1, ?_, ?_,fun n=> ?_⟩;{cases m with|nil=>(trivial)|cons q qs=>(show q.t<y;have:q.t<x:=h2;omega)};{cases m with|nil=>(trivial)|cons q qs=>(show q.f<=y;have:q.f<=x:=h3;omega)};{rw[h4];by_cases c1:n<x;{(have:n<y:=by omega);simp[c1,this]};{by_cases c2:n<y;{rw[flat n (by omega) c2,hp];simp};{simp[c1,c2]}}})|true=>(rw[if_pos rfl];have ho:fJ ⟨x,y-1⟩=true:=fK.2 ⟨r1.1,by show x<=y-1;omega,by show y-1<=_;omega⟩;obtain⟨g1,g2,g3⟩:=CQ h1 ho h3;refine⟨g1, ?_, ?_,fun n=> ?_⟩;{have:=top_push (r:=⟨x,y-1⟩) h2 (by show x<=y-1;omega);simpa using this};{revert g2;cases gj m ⟨x,y-1⟩with|nil=>(intro _;trivial)|cons q qs=>(intro g2;have:q.f<=x:=g2;show q.f<=y;omega)};{rw[g3,h4];by_cases c1:n<x;{(have:n<y:=by omega);(have c3: ¬x<=n:=by omega);simp[c1,this,QW,c3]};{by_cases c2:n<y;{rw[flat n (by omega) c2,hp];(have c3:x<=n:=by omega);(have c4:n<=y-1:=by omega);simp[QW,c1,c2,c3,c4]};{(have c4: ¬n<=y-1:=by omega);simp[QW,c1,c2,c4]}}})
theorem KZ(op:Int)(a b:List bF):(Bt (nI op a b) (dh a b) ((dh a b).length-1)).reverse=fV (nI op a b):=by by_cases h:(dh a b).length=0;{have e:dh a b=[]:=aR.1 h;rw[h];refine wK rfl fun n=> ?_;rw[KX (fun y hy=>by rw[e]at hy;cases hy)];rfl};{obtain⟨h1,_,_,h4⟩:=zQ op a b ((dh a b).length-1) (by omega);refine wK (wH.2 h1) fun n=> ?_;rw[wJ,h4];by_cases c:n<(dh a b)[(dh a b).length-1]!;{rw[decide_eq_true c,aG]};{rw[Om];{simp};{intro y hy;obtain⟨i,hi,rfl⟩:=dU.1 hy;have e:(dh a b)[i]! =(dh a b)[i]:=getElem!_pos _ i hi;rcases fR (show i<=(dh a b).length-1 by omega)with hh|hh;{have:=yn (oJ a b) hh (by omega);omega};{subst hh;omega}}}}
theorem isR_op(op:Int)(a b:List bF):IsR (nI op a b):=by by_cases h:(dh a b).length=0;{have e:dh a b=[]:=aR.1 h;exact⟨[],rfl,fun n=>by rw[KX (fun y hy=>by rw[e]at hy;cases hy)];rfl⟩};{refine⟨fV (nI op a b),mq _,fun n=> ?_⟩;have h0:=KZ op a b;obtain⟨h1,_,_,h4⟩:=zQ op a b ((dh a b).length-1) (by omega);rw[<-h0,wJ,h4];by_cases c:n<(dh a b)[(dh a b).length-1]!;{rw[decide_eq_true c,aG]};{rw[Om];{simp};{intro y hy;obtain⟨i,hi,rfl⟩:=dU.1 hy;have e:(dh a b)[i]! =(dh a b)[i]:=getElem!_pos _ i hi;rcases fR (show i<=(dh a b).length-1 by omega)with hh|hh;{have:=yn (oJ a b) hh (by omega);omega};{subst hh;omega}}}}
theorem DZ(l:List bF):IsR (aX l):=by obtain⟨m,h1,h2⟩:=isR_op 1 l [];exact⟨m,h1,fun n=>by rw[h2];simp[nI,opF,aX]⟩
end Go.Proofs.YtfnohjheonlnmaaGreat
namespace Go.Proofs.YtfnohjheonlnmaaGreat
open Go.ez
set_option linter.unusedSimpArgs false
set_option linter.unusedVariables false
theorem Sb: ∀{l:List bF},RR l ↔ l.Pairwise (fun r q=>q.t+2<=r.f)/\ ∀r∈l,fJ r=true| []=>by simp[RR]|r::l=>by constructor;{intro h;obtain⟨h1,h2⟩:=Sb.1 (zO h);exact⟨aU.2 ⟨vx h,h1⟩,rr_all h⟩};{rintro⟨h1,h2⟩;rw[aU]at h1;have ih:=Sb.2 ⟨h1.2,fun q hq=>h2 q (by simp[hq])⟩;cases l with|nil=>(exact h2 r (by simp))|cons q l=>(exact⟨h2 r (by simp),h1.1 q (by simp),ih⟩)}
theorem Xn{l:List bF}:dD l=true ↔ l.Pairwise (fun r q=>r.t+2<=q.f)/\ ∀r∈l,fJ r=true:=by rw[qi,Sb,List.pairwise_reverse];simp
def vz(l:List bF):Int:=(l.map fun r=>r.t-r.f+1).sum
theorem UM: ∀{l:List bF} {p:Int},l.Pairwise (fun r q=>r.t+2<=q.f)->(∀r∈l,fJ r=true)->(∀r∈l,p<=r.f)->1<=p->0<=vz l/\(l.length:Int)<=vz l/\vz l<=1099511627777-p\/l=[]| [],_,_,_,_,_=> .inr rfl|r::l,p,h,ho,hp,h1=>by rw[aU]at h;have o:=fK.1 (ho r (by simp));have hf:=hp r (by simp);(have e:vz (r::l)=(r.t-r.f+1)+vz l:=by simp[vz]);rcases UM (l:=l) (p:=r.t+2) h.2 (fun q hq=>ho q (by simp[hq])) h.1 (by omega)with⟨g1,g2,g3⟩|rfl;{refine .inl ⟨by omega, ?_,by omega⟩;rw[e];simp only[aw];omega};{have e0:vz []=0:=rfl;rw[e0]at e;refine .inl ⟨by omega, ?_,by omega⟩;rw[e];simp only[aw,bm];omega}
theorem Sc{l:List bF}(h:dD l=true):0<=vz l/\(l.length:Int)<=vz l/\vz l<=1099511627776:=by obtain⟨h1,h2⟩:=Xn.1 h;rcases UM (p:=1) h1 h2 (fun r hr=>(fK.1 (h2 r hr)).1) (cO _)with g|rfl;{omega};{simp[vz]}
theorem UN{l:List bF}(h:dD l=true):l.length<=1099511627776:=by have:=Sc h;omega
structure aI where
 n:Int
 rs:List bF
 deriving DecidableEq
instance:Inhabited aI:=⟨⟨0,[]⟩⟩
def aI.cells(k:aI):List A:=[.int .i64 k.n,.aD (k.rs.map bF.enc)]
def aI.enc(k:aI):A:= .agg k.cells
def bE:List aI->Int->List bF| [],_=>[]|k::s,n=>if k.n=n then k.rs++bE s n else bE s n
theorem iN: ∀(s t:List aI) (n:Int),bE (s++t) n=bE s n++bE t n| [],_,_=>rfl|k::s,t,n=>by simp only[bB,bE,iN s t n];split;{rw[aV]};{rfl}
def dJ(n:Int):Bool:=decide (1<=n)&&decide (n<=16)
theorem eo{n:Int}:dJ n=true ↔ 1<=n/\n<=16:=by simp[dJ]
def tO(s:List aI)(n c:Int):Bool:=dJ n&&aX (bE s n) c
def On(p:Int)(k:aI):Bool:=dJ k.n&&decide (p<k.n)&& !k.rs.isEmpty&&dD k.rs
def FG:Int->List aI->Bool|_,[]=>true|p,k::s=>On p k&&FG k.n s
def di(s:List aI):Bool:=FG 0 s
def rq(t:Int->List bF):Nat->List aI|0=>[]|k+1=>if(t (k+1)).isEmpty then rq t k else rq t k++[⟨k+1,t (k+1)⟩]
def qY(t:Int->List bF):List aI:=rq t 16
theorem tP(t:Int->List bF): ∀k,(rq t k).length<=k|0=>ae _|k+1=>by have:=tP t k;simp only[rq];split;{omega};{simp;omega}
theorem Oo(t:Int->List bF)(n:Int): ∀k:Nat,bE (rq t k) n=if 1<=n/\n<=k then t n else []|0=>by rw[if_neg (by omega)];rfl|k+1=>by have ih:=Oo t n k;simp only[rq];by_cases e:n=k+1;{subst e;rw[if_neg (by omega)]at ih;rw[if_pos (show 1<=(k:Int)+1/\(k:Int)+1<=((k+1:Nat):Int) by omega)];by_cases h:(t (k+1)).isEmpty=true;{rw[if_pos h,ih];exact(List.isEmpty_iff.1 h).symm};{rw[if_neg h,iN,ih];simp[bE]}};{(have h2:(1<=n/\n<=((k+1:Nat):Int)) ↔ (1<=n/\n<=(k:Int)):=by omega);split;{rw[ih];simp only[h2]};{rw[iN,ih];(have:bE [⟨(k:Int)+1,t (k+1)⟩] n=[]:=by simp only[bE];rw[if_neg (by omega)]);rw[this,aZ];simp only[h2]}}
theorem wL(t:Int->List bF)(n:Int):bE (qY t) n=if dJ n=true then t n else []:=by unfold qY;rw[Oo];simp only[eo];rfl
theorem Oq: ∀(s:List aI) (p:Int) (k:aI),FG p (s++[k])=(FG p s&&On (match s.getLast? with|some q=>q.n|none=>p) k)| [],p,k=>by simp[FG]|q::s,p,k=>by simp only[bB,FG,Oq s q.n k,eA];congr 2;cases h:s.getLast? with|none=>(rw[List.getLast?_cons];simp[h])|some x=>(rw[List.getLast?_cons];simp[h])
theorem zR{t:Int->List bF}{x:aI}: ∀{k:Nat},x∈rq t k->1<=x.n/\x.n<=k/\x.rs=t x.n/\x.rs≠ []|0,h=>by cases h|k+1,h=>by simp only[rq]at h;split at h;{have:=zR h;exact⟨this.1,by omega,this.2.2⟩};{rename_i eG;rcases az.1 h with h|h;{have:=zR h;exact⟨this.1,by omega,this.2.2⟩};{simp only[aJ]at h;subst h;exact⟨by show(1:Int)<=(k:Int)+1;omega,by show(k:Int)+1<=((k+1:Nat):Int);omega,rfl,fun e=>eG (List.isEmpty_iff.2 e)⟩}}
theorem Jp{t:Int->List bF}(h: ∀n,dD (t n)=true): ∀{k:Nat},k<=16->FG 0 (rq t k)=true|0,_=>rfl|k+1,hk=>by have ih:=Jp (t:=t) h (k:=k) (by omega);simp only[rq];split;{exact ih};{rename_i eG;rw[Oq,ih,aG];simp only[On,h,b9,ag,decide_eq_true_iff,eo];refine⟨⟨by omega, ?_⟩,by simpa using eG⟩;split;{rename_i q hq;have:=zR (List.mem_of_getLast? hq);omega};{omega}}
theorem FH{t:Int->List bF}(h: ∀n,dD (t n)=true):di (qY t)=true:=Jp h (ae _)
theorem Jq{t u:Int->List bF}: ∀{k:Nat},(∀n:Int,1<=n->n<=k->t n=u n)->rq t k=rq u k|0,_=>rfl|k+1,h=>by have ih:=Jq (t:=t) (u:=u) (k:=k) (fun n h1 h2=>h n h1 (by omega));have e:=h (k+1) (by omega) (by omega);simp only[rq,ih,e]
theorem nb{t u:Int->List bF}(h: ∀n,dJ n=true->t n=u n):qY t=qY u:=Jq fun n h1 h2=>h n (eo.2 ⟨h1,by omega⟩)
theorem vA: ∀{s:List aI} {p n:Int},FG p s=true->n<=p->bE s n=[]| [],_,_,_,_=>rfl|k::s,p,n,h,hn=>by simp only[FG,On,ag,decide_eq_true_iff]at h;simp only[bE];rw[if_neg (by omega)];exact vA h.2 (by omega)
theorem goK_rr: ∀{s:List aI} {p:Int},FG p s=true-> ∀n,dD (bE s n)=true| [],_,_,_=>rfl|k::s,p,h,n=>by simp only[FG,On,ag,decide_eq_true_iff]at h;simp only[bE];split;{rename_i e;rw[vA h.2 (Int.le_of_eq e.symm),aZ];exact h.1.2};{exact goK_rr h.2 n}
theorem goK_mk: ∀{s:List aI} {p:Nat},FG p s=true->p<=16->qY (bE s)=(rq (bE s) p)++s| [],p,_,hp=>by (have e: ∀k,rq (bE []) k=[]:=fun k=>by induction k with|zero=>(rfl)|succ k ih=>(have e:(bE [] ((k:Int)+1)).isEmpty=true:=rfl;simp only[rq,e,if_true];exact ih));unfold qY;rw[e,e];rfl|k::s,p,h,hp=>by have h0:=h;simp only[FG,On,ag,decide_eq_true_iff]at h;obtain⟨⟨⟨⟨h1,h2⟩,h3⟩,h4⟩,h5⟩:=h;rw[eo]at h1;obtain⟨m,hm⟩: ∃m:Nat,k.n=((m+1:Nat):Int):=⟨(k.n-1).toNat,by omega⟩;(have mc:bE (k::s) k.n=k.rs:=by simp only[bE,if_true];rw[vA h5 (cO _),aZ]);(have hrest: ∀n,k.n<n->bE (k::s) n=bE s n:=fun n hn=>by simp only[bE];rw[if_neg (by omega)]);(have sk: ∀n,n<k.n->bE (k::s) n=[]:=fun n hn=>by simp only[bE];rw[if_neg (by omega)];exact vA h5 (by omega));(have hz: ∀j:Nat,(j:Int)<k.n->rq (bE (k::s)) j=[]:=fun j=>by induction j with|zero=>(intro _;rfl)|succ j ih=>(intro hj;simp only[rq];rw[ih (by omega),sk _ (by omega)];rfl));(have hzs: ∀j:Nat,(j:Int)<=k.n->rq (bE s) j=[]:=fun j=>by induction j with|zero=>(intro _;rfl)|succ j ih=>(intro hj;simp only[rq];rw[ih (by omega),vA h5 (by omega)];rfl));(have Xo: ∀j:Nat,m+1<=j->rq (bE (k::s)) j=k::rq (bE s) j:=fun j=>by induction j with|zero=>(intro hj;omega)|succ j ih=>(intro hj;rcases fR hj with hj|hj;{have hh:=ih (by omega);have e:=hrest (((j:Nat):Int)+1) (by omega);simp only[rq];rw[hh,e];split<;>simp};{(have e1:j=m:=by omega);subst e1;(have e2:((j:Nat):Int)+1=k.n:=by omega);rw[hzs (j+1) (by omega)];simp only[rq];rw[e2,mc,hz j (by omega)];cases hrs:k.rs with|nil=>(rw[hrs]at h3;simp at h3)|cons r rs=>(rw[if_neg (by simp)];cases k;simp_all)}));have ih:=goK_mk (s:=s) (p:=m+1) (by rw[<-hm];exact h5) (by omega);rw[hzs (m+1) (by omega)]at ih;rw[hz p (by omega)];unfold qY at ih⊢;rw[Xo 16 (by omega),ih];rfl
theorem FI{s:List aI}(h:di s=true):qY (bE s)=s:=by have:=goK_mk (s:=s) (p:=0) h (by omega);simpa[rq]using this
theorem Sd{s:List aI}(h:di s=true):qY (fun n=>fV (aX (bE s n)))=s:=by have e:=FI h;rw[<-nb (t:=bE s) fun n _=>wK (goK_rr h n) fun _=>rfl];exact e
end Go.Proofs.YtfnohjheonlnmaaGreat
namespace Go.Iv
set_option linter.unusedSimpArgs false
set_option linter.unusedVariables false
set_option linter.unusedSectionVars false
section
variable{α β:Type}(lt:α->α->Bool)
def Bu(l:List ((α×Option α)×β))(x:α)(b:β):Prop:= ∃i∈l,jE lt i.1 x=true/\i.2=b
def Ot(i j:(α×Option α)×β):Prop:= ∃e,i.1.2=some e/\lt j.1.1 e=false/\(e=j.1.1->i.2≠j.2)
def pR:List ((α×Option α)×β)->Prop| []=>True| [i]=>below lt i.1.1 i.1.2=true|i::j::l=>below lt i.1.1 i.1.2=true/\Ot lt i j/\pR (j::l)
def CS:List ((α×Option α)×β)->Prop| []=>True| [i]=>below lt i.1.1 i.1.2=true|i::j::l=>below lt i.1.1 i.1.2=true/\Ot lt j i/\CS (j::l)
def topL(l:List ((α×Option α)×β))(x:α):Prop:=match l with| []=>True|q::_=> ∃e,q.1.2=some e/\lt x e=false
def FJ [DecidableEq α] [DecidableEq β](l:List ((α×Option α)×β))(r:(α×Option α)×β):List ((α×Option α)×β):=match l with| []=>[r]|q::qs=>if q.1.2=some r.1.1/\q.2=r.2 then((q.1.1,r.1.2),q.2)::qs else r::q::qs
end
section
variable{α β:Type}{lt:α->α->Bool}(hl:Lin lt)
theorem tQ{x:α}{b:β}: ¬Bu lt [] x b:=by rintro⟨_,h,_⟩;cases h
theorem lN{i:(α×Option α)×β}{l:List ((α×Option α)×β)}{x:α}{b:β}:Bu lt (i::l) x b ↔ (jE lt i.1 x=true/\i.2=b)\/Bu lt l x b:=by simp[Bu]
theorem inL_rev{l:List ((α×Option α)×β)}{x:α}{b:β}:Bu lt l.reverse x b ↔ Bu lt l x b:=by simp[Bu]
theorem Bv: ∀(l:List ((α×Option α)×β)) (i j:(α×Option α)×β),pR lt (l++[i,j]) ↔ pR lt (l++[i])/\Ot lt i j/\below lt j.1.1 j.1.2=true| [],i,j=>by simp[pR]| [x],i,j=>by have e:=Bv [] i j;simp only[bw,bB,pR]at e⊢;exact⟨fun⟨a,b,c,d,e⟩=>⟨⟨a,b,c⟩,d,e⟩,fun⟨⟨a,b,c⟩,d,e⟩=>⟨a,b,c,d,e⟩⟩|x::y::l,i,j=>by have e:=Bv (y::l) i j;simp only[bB,pR]at e⊢;rw[e];exact⟨fun⟨a,b,c,d,e⟩=>⟨⟨a,b,c⟩,d,e⟩,fun⟨⟨a,b,c⟩,d,e⟩=>⟨a,b,c,d,e⟩⟩
theorem Jr: ∀{l:List ((α×Option α)×β)},pR lt l.reverse ↔ CS lt l| []=>by simp[pR,CS]| [i]=>by simp[pR,CS]|i::j::l=>by have ih:= @Jr (j::l);simp only[gT,aV,bB,bw]at ih⊢;rw[Bv,ih,CS];exact⟨fun⟨a,b,c⟩=>⟨c,b,a⟩,fun⟨a,b,c⟩=>⟨c,b,a⟩⟩
theorem su{i:(α×Option α)×β}: ∀{l:List ((α×Option α)×β)},pR lt (i::l)->pR lt l| [],_=>trivial|_::_,h=>h.2.2
theorem Js{i:(α×Option α)×β}: ∀{l:List ((α×Option α)×β)},pR lt (i::l)->below lt i.1.1 i.1.2=true| [],h=>h|_::_,h=>h.1
include hl
theorem vB: ∀{l:List ((α×Option α)×β)} {i:(α×Option α)×β} {x:α} {b:β},pR lt (i::l)->Bu lt (i::l) x b->lt x i.1.1=false|l,i,x,b,h,hm=>by rcases lN.1 hm with⟨hm,_⟩|hm;{simp only[jE,ag,bS]at hm;exact hm.1};{cases l with|nil=>(exact absurd hm tQ)|cons j l=>(obtain⟨h1,⟨e,he,bf,_⟩,h2⟩:=h;have sk:=vB h2 hm;(have hi:lt i.1.1 e=true:=by rw[he]at h1;exact h1);have Bj:lt i.1.1 j.1.1=true:=pv hl hi bf;cases hx:lt x i.1.1;{rfl};{have h4:=hl.tr _ _ _ hx Bj;rw[h4]at sk;cases sk})}
theorem Ou{i:(α×Option α)×β}{l:List ((α×Option α)×β)}{x:α}{b:β}(h:pR lt (i::l))(hm:Bu lt l x b): ∃e,i.1.2=some e/\lt x e=false/\(x=e->i.2≠b):=by cases l with|nil=>(exact absurd hm tQ)|cons j l=>(obtain⟨h1,⟨e,he,bf,eG⟩,h2⟩:=h;have sk:=vB hl h2 hm;refine⟨e,he,oH hl sk bf,fun hx=> ?_⟩;subst hx;have hej:x=j.1.1:=so hl sk bf;(have hb:j.2=b:=by rcases lN.1 hm with⟨_,hm⟩|hm;{exact hm};{exfalso;cases l with|nil=>(exact absurd hm tQ)|cons k l=>(obtain⟨g1,⟨e',AV,ax,_⟩,g2⟩:=h2;have hlow':=vB hl g2 hm;rw[AV]at g1;have g1':lt j.1.1 e'=true:=g1;rw[<-hej]at g1';have:=pv hl g1' ax;rw[this]at hlow';cases hlow')});rw[<-hb];exact eG hej)
theorem qj{i:(α×Option α)×β}{l:List ((α×Option α)×β)}{x:α}{b:β}(h:pR lt (i::l)):Bu lt l x b ↔ Bu lt (i::l) x b/\jE lt i.1 x=false:=by constructor;{intro hm;refine⟨lN.2 (.inr hm), ?_⟩;obtain⟨e,he,hx,_⟩:=Ou hl h hm;simp[jE,he,below,hx]};{rintro⟨hm,h1⟩;rcases lN.1 hm with⟨h2,_⟩|h2;{rw[h1]at h2;cases h2};{exact h2}}
theorem Ov: ∀{l:List ((α×Option α)×β)} {x:α} {b c:β},pR lt l->Bu lt l x b->Bu lt l x c->b=c| [],_,_,_,_,h,_=>absurd h tQ|i::l,x,b,c,h,h1,h2=>by cases hi:jE lt i.1 x with|true=>((have e: ∀d,Bu lt (i::l) x d->i.2=d:=fun d hd=>by rcases lN.1 hd with⟨_,h3⟩|h3;{exact h3};{have:=(qj hl h).1 h3;rw[hi]at this;cases this.2});rw[<-e b h1,<-e c h2])|false=>(exact Ov (su h) ((qj hl h).2 ⟨h1,hi⟩) ((qj hl h).2 ⟨h2,hi⟩))
theorem vC{i:(α×Option α)×β}{l:List ((α×Option α)×β)}(h:pR lt (i::l)):Bu lt (i::l) i.1.1 i.2:=lN.2 (.inl ⟨by simp[jE,hl.CP,Js h],rfl⟩)
theorem K0{i j:(α×Option α)×β}{l m:List ((α×Option α)×β)}(h:pR lt (i::l))(h':pR lt (j::m))(hm: ∀x b,Bu lt (i::l) x b ↔ Bu lt (j::m) x b)(h0:i.1.1=j.1.1)(hb:i.2=j.2){e:α}(he:i.1.2=some e): ∃e',j.1.2=some e'/\lt e e'=false:=by (have hie:lt i.1.1 e=true:=by have:=Js h;rw[he]at this;exact this);(have hn: ¬Bu lt (i::l) e i.2:=fun hi=>by rcases lN.1 hi with⟨h1,_⟩|h1;{simp[jE,he,below,hl.CP]at h1};{obtain⟨e',AV,_,eG⟩:=Ou hl h h1;rw[he]at AV;exact eG (ah AV) rfl});rw[hm]at hn;cases hj:j.1.2 with|none=>(exact absurd (lN.2 (.inl ⟨by simp[jE,hj,below,<-h0,asymm hl hie],hb.symm⟩)) hn)|some e'=>(refine⟨e',rfl, ?_⟩;cases hee:lt e e' with|false=>(rfl)|true=>(exact absurd (lN.2 (.inl ⟨by simp[jE,hj,below,<-h0,asymm hl hie,hee],hb.symm⟩)) hn))
theorem CU: ∀{l m:List ((α×Option α)×β)},pR lt l->pR lt m->(∀x b,Bu lt l x b ↔ Bu lt m x b)->l=m| [],[],_,_,_=>rfl| [],j::m,_,h,hm=>absurd ((hm _ _).2 (vC hl h)) tQ|i::l,[],h,_,hm=>absurd ((hm _ _).1 (vC hl h)) tQ|i::l,j::m,h,h',hm=>by have a1:=(hm _ _).1 (vC hl h);have a2:=(hm _ _).2 (vC hl h');have e0:i.1.1=j.1.1:=so hl (vB hl h' a1) (vB hl h a2);(have eb:i.2=j.2:=by have:=vC hl h';rw[<-e0]at this;exact Ov hl h' a1 this);(have e1:i.1.2=j.1.2:=by cases hi:i.1.2 with|none=>(cases hj:j.1.2 with|none=>(rfl)|some e=>(obtain⟨e',h1,_⟩:=K0 hl h' h (fun x b=>(hm x b).symm) e0.symm eb.symm hj;rw[hi]at h1;cases h1))|some e=>(obtain⟨e',h1,h2⟩:=K0 hl h h' hm e0 eb hi;obtain⟨e'',h3,h4⟩:=K0 hl h' h (fun x b=>(hm x b).symm) e0.symm eb.symm h1;rw[hi]at h3;obtain rfl:=ah h3;rw[h1,so hl h2 h4]));(have e:i=j:=by obtain⟨⟨a,b⟩,c⟩:=i;obtain⟨⟨a',b'⟩,c'⟩:=j;simp_all);subst e;rw[CU (su h) (su h') fun x b=>by rw[qj hl h,qj hl h',hm]]
theorem Ow [DecidableEq α] [DecidableEq β]{l:List ((α×Option α)×β)}{r:(α×Option α)×β}(h:CS lt l)(hr:below lt r.1.1 r.1.2=true)(ht:topL lt l r.1.1):CS lt (FJ l r)/\(∀x b,Bu lt (FJ l r) x b ↔ Bu lt l x b\/(jE lt r.1 x=true/\r.2=b))/\ ∃q qs,FJ l r=q::qs/\q.1.2=r.1.2:=by cases l with|nil=>(exact⟨hr,fun x b=>by simp[FJ,Bu],r,[],rfl,rfl⟩)|cons q qs=>(obtain⟨e,he,hx⟩:=ht;simp only[FJ];by_cases hc:q.1.2=some r.1.1/\q.2=r.2;{rw[if_pos hc];(have hq:lt q.1.1 r.1.1=true:=by (have h0:below lt q.1.1 q.1.2=true:=by cases qs with|nil=>(exact h)|cons _ _=>(exact h.1));rw[hc.1]at h0;exact h0);(have UO:below lt q.1.1 r.1.2=true:=by cases UP:r.1.2 with|none=>(rfl)|some e'=>(rw[UP]at hr;exact hl.tr _ _ _ hq hr));refine⟨?_,fun x b=> ?_,_,_,rfl,rfl⟩;{cases qs with|nil=>(exact UO)|cons p ps=>(exact⟨UO,h.2.1,h.2.2⟩)};{rw[lN,lN];(have:jE lt (q.1.1,r.1.2) x=(jE lt q.1 x||jE lt r.1 x):=by have hb:below lt x (some r.1.1)=lt x r.1.1:=rfl;simp only[jE,hc.1,hb];cases h1:lt x q.1.1 with|true=>(have h2:lt x r.1.1=true:=hl.tr _ _ _ h1 hq;simp[h2])|false=>(cases h2:lt x r.1.1 with|true=>((have:below lt x r.1.2=true:=by cases UP:r.1.2 with|none=>(rfl)|some e'=>(rw[UP]at hr;exact hl.tr _ _ _ h2 hr));simp[this])|false=>(simp)));simp only[this,bA,hc.2];constructor;{rintro(⟨h1|h1,h2⟩|h1);{exact .inl (.inl ⟨h1,h2⟩)};{exact .inr ⟨h1,h2⟩};{exact .inl (.inr h1)}};{rintro((⟨h1,h2⟩|h1)|⟨h1,h2⟩);{exact .inl ⟨.inl h1,h2⟩};{exact .inr h1};{exact .inl ⟨.inr h1,h2⟩}}}};{rw[if_neg hc];refine⟨⟨hr,⟨e,he,hx,fun hee hb=>hc ⟨by rw[he,hee],hb⟩⟩,h⟩,fun x b=> ?_,_,_,rfl,rfl⟩;rw[lN];exact⟨fun h=>h.symm,fun h=>h.symm⟩})
end
end Go.Iv
namespace Go.Proofs.YtfnohjheonlnmaaGreat
open Go.ez
set_option linter.unusedSimpArgs false
set_option linter.unusedVariables false
structure Pc where
 r:bg
 s:List aI
 deriving DecidableEq
instance:Inhabited Pc:=⟨⟨⟨[],[],true⟩,[]⟩⟩
def setAt(k:List Pc)(x:List UInt8):List aI:=(k.filter fun p=>dV p.r x).flatMap (·.s)
theorem nT(k m:List Pc)(x:List UInt8):setAt (k++m) x=setAt k x++setAt m x:=by simp[setAt]
def eD(k:List Pc)(x:List UInt8)(n c:Int):Bool:=k.any fun p=>dV p.r x&&tO p.s n c
theorem hasP_at(k:List Pc)(x:List UInt8)(n c:Int):eD k x n c=tO (setAt k x) n c:=by induction k with|nil=>(simp[eD,setAt,tO,bE,aX])|cons p k ih=>((have e:setAt (p::k) x=(if dV p.r x=true then p.s else [])++setAt k x:=by unfold setAt;by_cases h:dV p.r x=true;{simp[h]};{simp[h]});have e2:eD (p::k) x n c=((dV p.r x&&tO p.s n c)||eD k x n c):=rfl;rw[e,e2,ih];unfold tO;rw[iN,lB];cases dV p.r x<;>cases dJ n<;>simp[bE,aX])
def ja(p:Pc):Bool:=bq p.r&& !p.s.isEmpty&&di p.s
def Bw(q p:Pc):Bool:= !q.r.op&& !cD p.r.lo q.r.hi&& !(q.r.hi==p.r.lo&&decide (q.s=p.s))
def K7:Option Pc->List Pc->Bool|_,[]=>true|q,p::k=>ja p&&(match q with|none=>true|some q=>Bw q p)&&K7 (some p) k
def cS(k:List Pc):Bool:=K7 none k
def AX(p:Pc):(List UInt8×Option (List UInt8))×List aI:=(qV p.r,p.s)
theorem ivP_inj{p q:Pc}(hp:ja p=true)(hq:ja q=true)(h:AX p=AX q):p=q:=by simp only[ja,ag]at hp hq;have h1:qV p.r=qV q.r:=congrArg Prod.fst h;have h2:p.s=q.s:=congrArg Prod.snd h;have:=iv_inj hp.1.1 hq.1.1 h1;cases p;cases q;simp_all
theorem UQ{q p:Pc}:Bw q p=true ↔ Iv.Ot cD (AX q) (AX p):=by simp only[Bw,Iv.Ot,AX,qV,ag,bS,Bool.and_eq_false_iff,beq_eq_false_iff_ne,decide_eq_false_iff_not];constructor;{rintro⟨⟨h1,h2⟩,h3⟩;exact⟨q.r.hi,by simp[h1],h2,fun e=>by rcases h3 with h3|h3;{exact absurd e h3};{exact h3}⟩};{rintro⟨e,h1,h2,h3⟩;cases ho:q.r.op with|true=>(rw[ho]at h1;simp at h1)|false=>(rw[ho]at h1;simp at h1;subst h1;refine⟨⟨rfl,h2⟩, ?_⟩;by_cases h:q.r.hi=p.r.lo;{exact .inr (h3 h)};{exact .inl h})}
theorem UR: ∀{k:List Pc} {q:Option Pc},K7 q k=true ↔ (∀p∈k,ja p=true)/\Iv.pR cD (k.map AX)/\ ∀u,q=some u-> ∀p,k.head? =some p->Bw u p=true| [],q=>by simp[K7,Iv.pR]|p::k,q=>by have ih:= @UR k (some p);simp only[K7,ag,ih];constructor;{rintro⟨⟨h1,h2⟩,h3,h4,h5⟩;refine⟨fun r hr=> ?_, ?_,fun u hu r hr=> ?_⟩;{rcases aA.1 hr with rfl|hr;{exact h1};{exact h3 r hr}};{(have hb:Iv.below cD (AX p).1.1 (AX p).1.2=true:=by simp only[ja,ag]at h1;exact UG h1.1.1);cases k with|nil=>(exact hb)|cons r k=>(exact⟨hb,UQ.1 (h5 p rfl r rfl),h4⟩)};{subst hu;simp at hr;subst hr;exact h2}};{rintro⟨h1,h2,h3⟩;refine⟨⟨h1 p (by simp), ?_⟩,fun r hr=>h1 r (by simp[hr]),Iv.su h2,fun u hu r hr=> ?_⟩;{cases q with|none=>(rfl)|some u=>(exact h3 u rfl p rfl)};{obtain rfl:=ah hu;cases k with|nil=>(cases hr)|cons w k=>(simp at hr;subst hr;exact UQ.2 h2.2.1)}}
theorem iJ{k:List Pc}:cS k=true ↔ (∀p∈k,ja p=true)/\Iv.pR cD (k.map AX):=by unfold cS;rw[UR];simp
def vD(k:List Pc)(x:List UInt8)(l:List aI):Prop:=Iv.Bu cD (k.map AX) x l
theorem CV: ∀{k m:List Pc},(∀p∈k,ja p=true)->(∀p∈m,ja p=true)->k.map AX=m.map AX->k=m| [],[],_,_,_=>rfl| [],_::_,_,_,h=>by simp at h|_::_,[],_,_,h=>by simp at h|p::k,q::m,h1,h2,h=>by simp only[aP,dt]at h;rw[ivP_inj (h1 p (by simp)) (h2 q (by simp)) h.1,CV (fun r hr=>h1 r (by simp[hr])) (fun r hr=>h2 r (by simp[hr])) h.2]
theorem H2{k m:List Pc}(h:cS k=true)(h':cS m=true)(hm: ∀x l,vD k x l ↔ vD m x l):k=m:=by rw[iJ]at h h';exact CV h.1 h'.1 (Iv.CU uM h.2 h'.2 hm)
open Classical in /-- THE right list of what is meant. -/def de(P:List UInt8->List aI):List Pc:=if h: ∃k,cS k=true/\ ∀x l,vD k x l ↔ P x=l/\l≠ []then Classical.choose h else []
def IsP(P:List UInt8->List aI):Prop:= ∃k,cS k=true/\ ∀x l,vD k x l ↔ P x=l/\l≠ []
theorem nc(P:List UInt8->List aI):cS (de P)=true:=by unfold de;split;{rename_i h;exact(dd h).1};{rfl}
theorem Jt{P:List UInt8->List aI}(h:IsP P)(x:List UInt8)(l:List aI):vD (de P) x l ↔ P x=l/\l≠ []:=by unfold de;rw[dif_pos (show∃k,cS k=true/\ ∀x l,vD k x l ↔ P x=l/\l≠ []from h)];exact(dd h).2 x l
theorem US{P:List UInt8->List aI}{k:List Pc}(h:cS k=true)(hp: ∀x l,vD k x l ↔ P x=l/\l≠ []):k=de P:=H2 h (nc P) fun x l=>by rw[hp,Jt ⟨k,h,hp⟩]
theorem zS{k:List Pc}(hk: ∀p∈k,ja p=true){x:List UInt8}{l:List aI}:vD k x l ↔∃p∈k,dV p.r x=true/\p.s=l:=by unfold vD Iv.Bu;constructor;{rintro⟨i,hi,h1,h2⟩;obtain⟨p,hp,rfl⟩:=bQ.1 hi;have:=hk p hp;simp only[ja,ag]at this;exact⟨p,hp,by rw[tG,this.1.1];exact h1,h2⟩};{rintro⟨p,hp,h1,h2⟩;refine⟨AX p,bQ.2 ⟨p,hp,rfl⟩, ?_,h2⟩;rw[tG,ag]at h1;exact h1.2}
theorem vE: ∀{k:List Pc},cS k=true-> ∀{x:List UInt8} {p:Pc},p∈k->dV p.r x=true->setAt k x=p.s| [],_,_,_,h,_=>by cases h|q::k,hr,x,p,hp,hx=>by have hc:=iJ.1 hr;have ht:cS k=true:=iJ.2 ⟨fun r h=>hc.1 r (by simp[h]),Iv.su hc.2⟩;(have e:setAt (q::k) x=(if dV q.r x=true then q.s else [])++setAt k x:=by unfold setAt;by_cases h:dV q.r x=true;{simp[h]};{simp[h]});rw[e];cases hq:dV q.r x with|true=>((have qW: ∀r∈k,dV r.r x=false:=fun r UP=>by rw[<-dv];intro hrx;have h1:Iv.Bu cD (k.map AX) x r.s:=(zS (fun r h=>hc.1 r (by simp[h]))).2 ⟨r,UP,hrx,rfl⟩;have h2:=(Iv.qj uM hc.2).1 h1;rw[tG,ag]at hq;have h3:Iv.jE cD (AX q).1 x=true:=hq.2;rw[h2.2]at h3;cases h3);(have h0:setAt k x=[]:=by unfold setAt;rw[dZ.2 (fun r h=>by rw[qW r h];simp)];rfl);(have hpq:p=q:=by rcases aA.1 hp with h|h;{exact h};{rw[qW p h]at hx;cases hx});rw[h0,hpq];simp)|false=>((have QX:p∈k:=by rcases aA.1 hp with h|h;{subst h;rw[hq]at hx;cases hx};{exact h});simp only[aC,if_false,bw];exact vE ht QX hx)
def ff:List Pc->Pc->List Pc| [],r=>[r]|q::qs,r=>if(!q.r.op&&q.r.hi==r.r.lo&&decide (q.s=r.s))=true then⟨⟨q.r.lo,r.r.hi,r.r.op⟩,q.s⟩::qs else r::q::qs
theorem pushP_iv(l:List Pc)(r:Pc):(ff l r).map AX=Iv.FJ (l.map AX) (AX r):=by cases l with|nil=>(rfl)|cons q qs=>(simp only[ff,aP,Iv.FJ];(have:((!q.r.op&&q.r.hi==r.r.lo&&decide (q.s=r.s))=true) ↔ ((AX q).1.2=some (AX r).1.1/\(AX q).2=(AX r).2):=by simp only[AX,qV,ag,bS,beq_iff_eq,decide_eq_true_iff];cases q.r.op<;>simp);by_cases h:(!q.r.op&&q.r.hi==r.r.lo&&decide (q.s=r.s))=true;{rw[if_pos h,if_pos (this.1 h)];rfl};{rw[if_neg h,if_neg (fun e=>h (this.2 e))];rfl})
theorem Xp(l:List Pc)(r:Pc):(ff l r).length<=l.length+1:=by cases l with|nil=>(simp[ff])|cons q qs=>(simp only[ff];split<;>simp)
def pb(es:List (List UInt8))(k:Nat):bg:=if k+1<es.length then⟨es[k]!,es[k+1]!,false⟩else⟨es[k]!,[],true⟩
def pS(P:List UInt8->List aI)(es:List (List UInt8)):Nat->List Pc|0=>[]|k+1=>if P (es[k]!)=[]then pS P es k else ff (pS P es k) ⟨pb es k,P (es[k]!)⟩
theorem zT(P:List UInt8->List aI)(es:List (List UInt8)): ∀k,(pS P es k).length<=k|0=>ae _|k+1=>by have h1:=zT P es k;have h2:=Xp (pS P es k) ⟨pb es k,P (es[k]!)⟩;simp only[pS];split<;>omega
theorem wM{e:List (List UInt8)}(h:e.Pairwise (fun x y=>cD x y=true)){i j:Nat}(Bj:i<j)(hj:j<e.length):cD (e[i]!) (e[j]!)=true:=by rw[getElem!_pos e i (by omega),getElem!_pos e j hj];exact cm.1 h i j (by omega) hj Bj
structure Ox(P:List UInt8->List aI)(es:List (List UInt8)):Prop where
 up:es.Pairwise (fun x y=>cD x y=true)
 nil: []∈es
 len: ∀e∈es,e.length<=17
 flat: ∀x e,e∈es->cD x e=false->(∀y∈es,cD e y=true->cD x y=true)->P x=P e
 right: ∀x,di (P x)=true
theorem K8(x:List UInt8):cD x []=false:=by cases x<;>rfl
theorem Oy{P:List UInt8->List aI}{es:List (List UInt8)}(h:Ox P es):es[0]! =[]/\0<es.length:=by obtain⟨i,hi,he⟩:=dU.1 h.nil;refine⟨?_,by omega⟩;rcases Nat.eq_zero_or_pos i with rfl|hp;{rw[getElem!_pos es 0 hi,he]};{have:=wM h.up hp hi;rw[getElem!_pos es i hi,he,K8]at this;cases this}
theorem Se{P:List UInt8->List aI}{es:List (List UInt8)}(h:Ox P es){k:Nat}(hk:k<es.length):bq (pb es k)=true:=by have h1:=h.len (es[k]!) (by rw[getElem!_pos es k hk];exact aj _);unfold pb;by_cases hn:k+1<es.length;{have h2:=h.len (es[k+1]!) (by rw[getElem!_pos es (k+1) hn];exact aj _);rw[if_pos hn];exact vq h1 h2 (fun e=>by cases e) (fun _=>wM h.up (kC k) hn)};{rw[if_neg hn];exact vq h1 (by simp) (fun _=>rfl) (fun e=>by cases e)}
theorem rngE_lo{es:List (List UInt8)}{k:Nat}:(pb es k).lo=es[k]! :=by unfold pb;split<;>rfl
theorem Xq{l:List Pc}{r:Pc}(hl: ∀p∈l,ja p=true)(hr:ja r=true): ∀p∈ff l r,ja p=true:=by cases l with|nil=>(intro p hp;simp only[ff,aJ]at hp;subst hp;exact hr)|cons q qs=>(intro p hp;simp only[ff]at hp;split at hp;{rename_i hc;rcases aA.1 hp with rfl|hp;{have hq:=hl q (by simp);simp only[ag,bS,beq_iff_eq,decide_eq_true_iff]at hc;simp only[ja,ag]at hq hr⊢;refine⟨⟨?_,hq.1.2⟩,hq.2⟩;have a:=hq.1.1;have b:=hr.1.1;simp only[bq,ag,decide_eq_true_iff,hc.1.1,aC,if_false]at a b⊢;refine⟨⟨a.1.1,b.1.2⟩, ?_⟩;cases ho:r.r.op with|true=>(have:=b.2;rw[ho]at this;simpa using this)|false=>(have:=b.2;rw[ho]at this;simp only[aC,if_false]at this⊢;rw[<-hc.1.2]at this;exact eZ a.2 this)};{exact hl p (by simp[hp])}};{rcases aA.1 hp with rfl|hp;{exact hr};{exact hl p hp}})
theorem vF{P:List UInt8->List aI}{es:List (List UInt8)}(h:Ox P es): ∀k,k<=es.length-> (∀p∈pS P es k,ja p=true)/\Iv.CS cD ((pS P es k).map AX)/\(k<es.length->Iv.topL cD ((pS P es k).map AX) (es[k]!))/\∀x l,Iv.Bu cD ((pS P es k).map AX) x l ↔ (0<k/\(k<es.length->cD x (es[k]!)=true))/\P x=l/\l≠ []|0,_=>⟨fun p hp=>(by cases hp),trivial,fun _=>trivial,fun x l=>⟨fun hi=>absurd hi Iv.tQ,fun hi=>by omega⟩⟩|k+1,hk=>by obtain⟨h0,h1,h2,h3⟩:=vF h k (by omega);have pK:=h2 (by omega);(have hek:es[k]! ∈es:=by rw[getElem!_pos es k (by omega)];exact aj _);(have FK: ∀x,Iv.jE cD (qV (pb es k)) x=true ↔ (cD x (es[k]!)=false/\(k+1<es.length->cD x (es[k+1]!)=true)):=fun x=>by unfold pb;by_cases hn:k+1<es.length;{rw[if_pos hn];simp[Iv.jE,qV,Iv.below,hn]};{rw[if_neg hn];simp[Iv.jE,qV,Iv.below,hn]});(have zi: ∀x,Iv.jE cD (qV (pb es k)) x=true->P x=P (es[k]!):=fun x hx=>by obtain⟨a,b⟩:=(FK x).1 hx;refine h.flat x _ hek a fun y hy hly=> ?_;obtain⟨i,hi,rfl⟩:=dU.1 hy;have e:es[i]! =es[i]:=getElem!_pos _ i hi;rw[<-e]at hly⊢;rcases Nat.lt_trichotomy i k with hh|hh|hh;{have:=wM h.up hh (by omega);rw[kH this]at hly;cases hly};{subst hh;rw[lt_irrefl]at hly;cases hly};{have hb:=b (by omega);rcases fR (show k+1<=i by omega)with hh'|hh';{exact eZ hb (wM h.up hh' hi)};{subst hh';exact hb}});(have qD: ∀x,(0<k+1/\(k+1<es.length->cD x (es[k+1]!)=true)) ↔ (0<k/\(k<es.length->cD x (es[k]!)=true))\/Iv.jE cD (qV (pb es k)) x=true:=fun x=>by rw[FK];constructor;{rintro⟨_,hb⟩;cases hx:cD x (es[k]!)with|false=>(exact .inr ⟨rfl,hb⟩)|true=>(refine .inl ⟨?_,fun _=>rfl⟩;rcases Nat.eq_zero_or_pos k with h0|h0;{subst h0;rw[(Oy h).1,K8]at hx;cases hx};{exact h0})};{rintro(⟨h4,h5⟩|⟨_,h5⟩);{exact⟨by omega,fun hn=>eZ (h5 (by omega)) (wM h.up (kC k) hn)⟩};{exact⟨by omega,h5⟩}});simp only[pS];by_cases hP:P (es[k]!)=[];{rw[if_pos hP];refine⟨h0,h1,fun hn=> ?_,fun x l=> ?_⟩;{revert pK;cases hm:(pS P es k).map AX with|nil=>(intro _;trivial)|cons q qs=>(rintro⟨e,he,bf⟩;exact⟨e,he,Iv.oH uM (kH (wM h.up (kC k) hn)) bf⟩)};{rw[h3,qD];constructor;{rintro⟨a,b⟩;exact⟨.inl a,b⟩};{rintro⟨a|a,b⟩;{exact⟨a,b⟩};{rw[zi x a,hP]at b;exact absurd b.1.symm b.2}}}};{rw[if_neg hP];have WW:=Se h (k:=k) (by omega);(have gO:ja ⟨pb es k,P (es[k]!)⟩=true:=by simp only[ja,WW,h.right,aG,b9,bS];cases hPk:P (es[k]!)with|nil=>(exact absurd hPk hP)|cons _ _=>(rfl));obtain⟨g1,g2,q,qs,g3,g4⟩:=Iv.Ow uM (r:=AX ⟨pb es k,P (es[k]!)⟩) h1 (UG WW) (by show Iv.topL cD _ (pb es k).lo;rw[rngE_lo];exact pK);rw[<-pushP_iv]at g1 g2 g3;refine⟨fun p hp=>Xq h0 gO p hp,g1,fun hn=> ?_,fun x l=> ?_⟩;{rw[g3];refine⟨es[k+1]!, ?_,lt_irrefl _⟩;rw[g4];show(qV (pb es k)).2=_;unfold pb;rw[if_pos hn];rfl};{rw[g2,h3,qD];constructor;{rintro(⟨a,b⟩|⟨a,b⟩);{exact⟨.inl a,b⟩};{have a':Iv.jE cD (qV (pb es k)) x=true:=a;have b':P (es[k]!)=l:=b;exact⟨.inr a',by rw[zi x a'];exact b',by rw[<-b'];exact hP⟩}};{rintro⟨a|a,b⟩;{exact .inl ⟨a,b⟩};{exact .inr ⟨a,by rw[<-zi x a];exact b.1⟩}}}}
theorem rr{P:List UInt8->List aI}{es:List (List UInt8)}(h:Ox P es):(pS P es es.length).reverse=de P/\IsP P:=by obtain⟨h0,h1,_,h3⟩:=vF h es.length (ae _);(have hr:cS (pS P es es.length).reverse=true:=by rw[iJ];refine⟨fun p hp=>h0 p (kD.1 hp), ?_⟩;rw[List.map_reverse];exact Iv.Jr.2 h1);(have hs: ∀x l,vD (pS P es es.length).reverse x l ↔ P x=l/\l≠ []:=fun x l=>by unfold vD;rw[List.map_reverse,Iv.inL_rev,h3];have:=(Oy h).2;exact⟨fun h=>h.2,fun h=>⟨⟨this,fun hn=>by omega⟩,h⟩⟩);exact⟨US hr hs,_,hr,hs⟩
set_option maxRecDepth 20000
set_option maxHeartbeats 4000000
theorem strI{q:IntKind}(l:List Int):((l.map (A.int q)).isEmpty||eK (l.map (A.int q))==1)=true:=by cases l<;>rfl
theorem Ju{l:List Int}{n:Int}{k:Nat}(hk:k<=l.length)(hd:nS l n=l.take k++n::l.drop k):k+1<=((l.take k).map (A.int .i64)++[A.int .i64 n]).length/\k+1+(l.length-k)<=(((l.take k).map (A.int .i64)++[A.int .i64 n]).take (k+1)++(l.drop k).map (A.int .i64)).length/\ (((l.take k).map (A.int .i64)++[A.int .i64 n]).take (k+1)++(l.drop k).map (A.int .i64)).take (k+1+(l.length-k))=(nS l n).map (A.int .i64):=by (have e:((l.take k).map (A.int .i64)++[A.int .i64 n]).length=k+1:=by simp;omega);rw[ab (dj e)];(have e2:((l.take k).map (A.int .i64)++[A.int .i64 n]++(l.drop k).map (A.int .i64)).length=k+1+(l.length-k):=by rw[ai,e,aa,bT]);rw[ab (dj e2)];exact⟨by omega,by omega,by rw[hd];simp⟩
theorem Oz(l:List Int)(n:Int)(hl:l.length<=1000000):bh Tryz.prog 271 [.aD (l.map (A.int .i64)),.int .i64 n] (· = .aD ((nS l n).map (A.int .i64))):=by refine aF tK mixed Tryz.func271 ?_;unfold Tryz.f271;simp-implicitDefEqProofs (disch:=first|omega|decide) only[go_sem,↓reduceIte,seval,aa];refine aQ [0,1,4] (ι:={k:Nat//k<=l.length/\nS l n=l.take k++nS (l.drop k) n}) (fun p=>[(5,.int .i64 p.1)]) (fun _=>[]) (fun p=>l.length-p.1) ⟨0,by omega,rfl⟩ (ak _) ?_ ?_;{simp-implicitDefEqProofs (disch:=first|omega|decide) only[go_sem,↓reduceIte,seval]};{rintro⟨k,hk,hd⟩;simp only;by_cases bf:k<l.length;{(have ax:(k:Int)<(l.length:Int):=by omega);(have e1:(l.map (A.int .i64))[k]? =some (.int .i64 l[k]):=by rw[aL,ad bf];rfl);(have tk:(l.take k).length=k:=by rw[aB];omega);have t1:=(an bf).symm;rw[ao bf]at hd;generalize hx:l[k]=x at*;simp only[nS]at hd;by_cases h1:x<n;{rw[if_pos h1]at hd;simp-implicitDefEqProofs (disch:=first|omega|decide) only[go_sem,↓reduceIte,seval,ax,e1,h1,wrap_i64,aa];exact⟨⟨k+1,bf,by rw[hd,t1,aV];rfl⟩,by simp,by show l.length-(k+1)<l.length-k;omega⟩};{rw[if_neg h1]at hd;cases h2:x==n with|true=>(simp-implicitDefEqProofs (disch:=first|omega|decide) only[go_sem,↓reduceIte,seval,ax,e1,h1,h2,wrap_i64,aa];(have hxn:x=n:=by simpa using h2);rw[if_pos hxn,<-hx,<-ao bf,bn]at hd;rw[hd])|false=>((have hxn:x≠n:=by simpa using h2);have l1:(l.take k).length=k:=tk;have l2:(l.drop k).length=l.length-k:=bT ..;simp-implicitDefEqProofs (disch:=first|omega|decide) only[go_sem,↓reduceIte,seval,ax,e1,h1,h2,wrap_i64,<-gS,<-jD,strI,aa,bz,l1,l2];obtain⟨c1,c2,c3⟩:=Ju hk (by rw[hd,if_neg hxn,<-hx,<-ao bf]);exact⟨by omega,by omega,⟨by omega,by omega⟩,⟨by omega,by omega⟩,⟨c1,by omega⟩,c2,c3⟩)}};{(have ax: ¬(k:Int)<(l.length:Int):=by omega);(have l1:(l.take k).length=k:=by rw[aB];omega);have l2:(l.drop k).length=l.length-k:=bT ..;have l3:l.drop k=[]:=ay (by omega);obtain⟨c1,c2,c3⟩:=Ju hk (by rw[hd,l3];rfl);simp-implicitDefEqProofs (disch:=first|omega|decide) only[go_sem,↓reduceIte,seval,ax,wrap_i64,<-gS,<-jD,strI,aa,bz,l1,l2];exact⟨by omega,by omega,⟨by omega,by omega⟩,⟨by omega,by omega⟩,⟨c1,by omega⟩,c2,c3⟩}}
def Xr:aN:=HY.add 271 (entry (fun(v:List Int×Int)=>[.aD (v.1.map (A.int .i64)),.int .i64 v.2]) (fun v=>v.1.length<=1000000) (fun v=> .aD ((nS v.1 v.2).map (A.int .i64))))
theorem UT:aH Tryz.prog Xr:=tK.en Tryz.func271 fun v h=>Oz v.1 v.2 h
@[go_sem] theorem T13c_s:Xr.nx HY 271:=aN.Bn T13b_s.2
theorem FL(v:List Int×Int)(h:v.1.length<=1000000):Xr.f 271 [.aD (v.1.map (A.int .i64)),.int .i64 v.2]=some (.aD ((nS v.1 v.2).map (A.int .i64))):=aN.en (Γ:=HY) v h
@[go_sem] theorem t_ref13_put{l:List Int}{n:Int}(h:l.length<=1000000):Xr.f 271 [.aD (l.map (A.int .i64)),.int .i64 n]=some (.aD ((nS l n).map (A.int .i64))):=FL (l,n) h
def slI:List Int->A| []=> .ec|x::xs=> .aD ((x::xs).map (A.int .i64))
theorem slI_ne{l:List Int}(h:l≠ []):slI l= .aD (l.map (A.int .i64)):=by cases l with|nil=>(exact absurd rfl h)|cons x xs=>(rfl)
theorem Bx{m:Nat}(l:List Int):(slI l).under m=true:=by cases l<;>rfl
@[go_sem] theorem view_slI{H:List Go.ez.Obj}{l:List Int}:view H (slI l)=some (.aD (l.map (A.int .i64))):=by cases l<;>rfl
@[go_sem] theorem pure_slI{l:List Int}:(slI l).pure=true:=by cases l<;>rfl
theorem H3(a b:List bF)(ha:a.length<=50000)(hb:b.length<=50000):bh Tryz.prog 246 [.aD (a.map bF.enc),.aD (b.map bF.enc)] (· = .aD ((dh a b).map (A.int .i64))):=by refine aF UT mixed Tryz.func246 ?_;unfold Tryz.f246;simp-implicitDefEqProofs (disch:=first|omega|decide) only[go_sem,↓reduceIte,seval,aa];refine aQ [0,1,4] (ι:={k:Nat//k<=a.length}) (fun p=>[(6,.int .i64 p.1),(5,slI (jh [] (a.take p.1)))]) (fun _=>[]) (fun p=>a.length-p.1) ⟨0,by omega⟩ (ak _) ?_ ?_;{simp-implicitDefEqProofs (disch:=first|omega|decide) only[go_sem,↓reduceIte,seval];simp[jh,slI,A.under]};{rintro⟨k,hk⟩;simp only;have hlen:=tL [] (a.take k);(have M3:(a.take k).length=k:=by rw[aB];omega);by_cases bf:k<a.length;{(have ax:(k:Int)<(a.length:Int):=by omega);have e1:=run_get bf;have ht:a.take (k+1)=a.take k++[a[k]]:=(an bf).symm;generalize hx:a[k]=x at*;obtain⟨f,t⟩:=x;have hs:=CR [] (a.take k) ⟨f,t⟩;rw[<-ht]at hs;generalize EE:jh [] (a.take k)=es at*;simp only[bm]at hlen;cases h1:fJ ⟨f,t⟩with|false=>(rw[h1]at hs;simp-implicitDefEqProofs (disch:=first|omega|decide) only[go_sem,↓reduceIte,seval,ax,e1,h1,wrap_i64,aa];exact⟨⟨k+1,bf⟩,by simp[hs,Bx],by show a.length-(k+1)<a.length-k;omega⟩)|true=>(rw[h1,if_pos rfl]at hs;obtain⟨o1,o2,o3⟩:=ny h1;simp only at o1 o2 o3 hs;have p1:=zP es f;have mO:=slI_ne (UK (nS es f) (t+1));simp-implicitDefEqProofs (disch:=first|omega|decide) only[go_sem,↓reduceIte,seval,ax,e1,h1,wrap_i64,aa];exact⟨⟨k+1,bf⟩,by simp[hs,mO,A.under],by show a.length-(k+1)<a.length-k;omega⟩)};{(have ax: ¬(k:Int)<(a.length:Int):=by omega);rw[ab (by omega)]at*;simp-implicitDefEqProofs (disch:=first|omega|decide) only[go_sem,↓reduceIte,seval,ax,aa];generalize hea:jh [] a=ea at*;simp only[bm]at hlen;refine aQ [1,4] (ι:={k:Nat//k<=b.length}) (fun p=>[(7,.int .i64 p.1),(5,slI (jh ea (b.take p.1)))]) (fun _=>[]) (fun p=>b.length-p.1) ⟨0,by omega⟩ (ak _) ?_ ?_;{simp-implicitDefEqProofs (disch:=first|omega|decide) only[go_sem,↓reduceIte,seval];simp[jh,Bx]};{rintro⟨j,hj⟩;simp only;have hlen2:=tL ea (b.take j);(have htj:(b.take j).length=j:=by rw[aB];omega);by_cases me:j<b.length;{(have FM:(j:Int)<(b.length:Int):=by omega);have e1:=run_get me;have ht:b.take (j+1)=b.take j++[b[j]]:=(an me).symm;generalize hx:b[j]=x at*;obtain⟨f,t⟩:=x;have hs:=CR ea (b.take j) ⟨f,t⟩;rw[<-ht]at hs;generalize EE:jh ea (b.take j)=es at*;cases h1:fJ ⟨f,t⟩with|false=>(rw[h1]at hs;simp-implicitDefEqProofs (disch:=first|omega|decide) only[go_sem,↓reduceIte,seval,FM,e1,h1,wrap_i64,aa];exact⟨⟨j+1,me⟩,by simp[hs,Bx],by show b.length-(j+1)<b.length-j;omega⟩)|true=>(rw[h1,if_pos rfl]at hs;obtain⟨o1,o2,o3⟩:=ny h1;simp only at o1 o2 o3 hs;have p1:=zP es f;have mO:=slI_ne (UK (nS es f) (t+1));simp-implicitDefEqProofs (disch:=first|omega|decide) only[go_sem,↓reduceIte,seval,FM,e1,h1,wrap_i64,aa];exact⟨⟨j+1,me⟩,by simp[hs,mO,A.under],by show b.length-(j+1)<b.length-j;omega⟩)};{(have FM: ¬(j:Int)<(b.length:Int):=by omega);rw[ab (by omega)]at*;(have mO:jh ea b=dh a b:=by rw[<-hea];rfl);simp-implicitDefEqProofs (disch:=first|omega|decide) only[go_sem,↓reduceIte,seval,FM,mO,aa]}}}}
def Xs:aN:=Xr.add 183 (entry (fun(v:List bF×Int)=>[.aD (v.1.map bF.enc),.int .i64 v.2]) (fun v=>v.1.length<=4611686018427387904) (fun v=> .bool (aX v.1 v.2)))
theorem T13d_ok:aH Tryz.prog Xs:=UT.en Tryz.func183 fun v h=>Oi v.1 v.2 h
theorem FN(v:List bF×Int)(h:v.1.length<=4611686018427387904):Xs.f 183 [.aD (v.1.map bF.enc),.int .i64 v.2]=some (.bool (aX v.1 v.2)):=aN.en (Γ:=Xr) v h
@[go_sem] theorem t_ref13_Has{l:List bF}{n:Int}(h:l.length<=4611686018427387904):Xs.f 183 [.aD (l.map bF.enc),.int .i64 n]=some (.bool (aX l n)):=FN (l,n) h
def Sf:aN:=Xs.add 246 (entry (fun(v:List bF×List bF)=>[.aD (v.1.map bF.enc),.aD (v.2.map bF.enc)]) (fun v=>v.1.length<=50000/\v.2.length<=50000) (fun v=> .aD ((dh v.1 v.2).map (A.int .i64))))
theorem UU:aH Tryz.prog Sf:=T13d_ok.en Tryz.func246 fun v h=>H3 v.1 v.2 h.1 h.2
@[go_sem] theorem T13e_s:Sf.nx Xs 246:=⟨fun _ _ h=>aN.aS h,fun _=>rfl,fun _=>rfl,rfl,fun _=>rfl,rfl,fun _=>rfl,rfl⟩
theorem By(v:List bF×List bF)(h:v.1.length<=50000/\v.2.length<=50000):Sf.f 246 [.aD (v.1.map bF.enc),.aD (v.2.map bF.enc)]=some (.aD ((dh v.1 v.2).map (A.int .i64))):=aN.en (Γ:=Xs) v h
@[go_sem] theorem t_ref13_Edges{a b:List bF}(h:a.length<=50000/\b.length<=50000):Sf.f 246 [.aD (a.map bF.enc),.aD (b.map bF.enc)]=some (.aD ((dh a b).map (A.int .i64))):=By (a,b) h
theorem FO{α:List A}{x v:A}: ∀{l:List A},fF (l++[x]) l.length v=l++[v]| []=>rfl|y::l=>by simp only[bB,aw,fF,FO (α:=α)]
theorem mr{x:A}: ∀{l:List A},(l++[x])[l.length]? =some x| []=>rfl|y::l=>by simp[mr]
theorem UW{l:List Int}{k:Nat}(h:k<l.length):(l.map (A.int .i64))[k]? =some (.int .i64 (l[k]!)):=by rw[aL,ad h,getElem!_pos l k h];rfl
def sw(acc:List bF):List A:=acc.reverse.map bF.enc
theorem wN(q:bF)(qs:List bF):sw (q::qs)=sw qs++[.agg [.int .i64 q.f,.int .i64 q.t]]:=by simp[sw,bF.enc,bF.cells]
theorem zU(l:List bF):(sw l).length=l.length:=by simp[sw]
theorem OA:sw []=[]:=rfl
def OB(op:Int):Prop:=op=1\/op=2\/op=3
theorem K9(op:Int)(a b:List bF)(ho:OB op)(ha:a.length<=50000)(hb:b.length<=50000):bh Tryz.prog 223 [.int .i64 op,.aD (a.map bF.enc),.aD (b.map bF.enc)] (· = .aD ((fV (nI op a b)).map bF.enc)):=by refine aF UU mixed Tryz.func223 ?_;unfold Tryz.f223;have QY:=FF a b;have mN:=KZ op a b;have zV:=zQ op a b;have Xo:=oJ a b;have hrng: ∀k,k<(dh a b).length->1<=(dh a b)[k]! /\(dh a b)[k]! <=1099511627777:=fun k hk=>tN (a:=a) (b:=b) (by rw[getElem!_pos _ k hk];exact aj _);simp-implicitDefEqProofs (disch:=first|omega|decide) only[go_sem,↓reduceIte,seval,aa,ha,hb];generalize he:dh a b=e at*;refine ch 8 2 rfl ?_;refine aQ [0,1,2,6,7] (ι:={k:Nat//k<=e.length-1}) (fun p=>[(9,.int .i64 p.1),(8,.row 0 0 2 (Bt (nI op a b) e p.1).length false)]) (fun p=>[(0,.row 2 (sw (Bt (nI op a b) e p.1)))]) (fun p=>e.length-p.1) ⟨0,by omega⟩ (ak _) ?_ ?_;{simp-implicitDefEqProofs (disch:=first|omega|decide) only[go_sem,↓reduceIte,seval,Bt,OA];done};{rintro⟨k,hk⟩;simp only;have hlen:=KY (nI op a b) e k;by_cases bf:k+1<e.length;{(have ax:(k:Int)+1<(e.length:Int):=by omega);have e1:=UW (l:=e) (k:=k) (by omega);have e2:=UW (l:=e) (k:=k+1) bf;obtain⟨s1,s2,s3,s4⟩:=zV k (by omega);have Bz:=yn Xo (kC k) bf;have r1:=hrng k (by omega);have r2:=hrng (k+1) bf;have hmk:Bt (nI op a b) e (k+1)=if nI op a b (e[k]!)then gj (Bt (nI op a b) e k) ⟨e[k]!,e[k+1]! -1⟩else Bt (nI op a b) e k:=rfl;generalize hx:e[k]! =x at*;generalize hy:e[k+1]! =y at*;generalize hm:Bt (nI op a b) e k=m at*;have hP:nI op a b x=opF op (aX a x) (aX b x):=rfl;(have t1:((k:Int)+1).toNat=k+1:=by omega);(have t2:(0:Int)<=(k:Int)+1:=by omega);(have t3:(0:Int)<=(k:Int):=by omega);(have skip:nI op a b x=false->Bt (nI op a b) e (k+1)=m:=fun h=>by rw[hmk,h];rfl);have fin: ∀m',Bt (nI op a b) e (k+1)=m'-> ∃j:{k:Nat//k<=e.length-1},(((k:Int)+1=(j.1:Int)/\m'.length=(Bt (nI op a b) e j.1).length)/\sw m'=sw (Bt (nI op a b) e j.1))/\e.length-j.1<e.length-k:=fun m' og=>⟨⟨k+1,by omega⟩,⟨⟨by simp,by rw[og]⟩,by rw[og]⟩,by show e.length-(k+1)<e.length-k;omega⟩;cases hp:nI op a b x with|false=>(have hs:=skip hp;rcases ho with rfl|rfl|rfl<;>cases hax:aX a x<;>cases hbx:aX b x<;>rw[hax,hbx]at hP<;>simp[opF,hp]at hP<;>simp-implicitDefEqProofs (maxSteps:=9^6) (disch:=first|omega|decide) only[go_sem,↓reduceIte,seval,ax,e1,e2,hax,hbx,t1,t2,t3,wrap_i64,aa];all_goals exact fin m hs)|true=>((have hs:Bt (nI op a b) e (k+1)=gj m ⟨x,y-1⟩:=by rw[hmk,hp];rfl);have qG:=fin _ hs;cases m with|nil=>(rw[OA];rcases ho with rfl|rfl|rfl<;>cases hax:aX a x<;>cases hbx:aX b x<;>rw[hax,hbx]at hP<;>simp[opF,hp]at hP<;>simp-implicitDefEqProofs (maxSteps:=9^6) (disch:=first|omega|decide) only[go_sem,↓reduceIte,seval,ax,e1,e2,hax,hbx,t1,t2,t3,wrap_i64,aa];all_goals exact qG)|cons q qs=>(have hqt:q.t<x:=s2;rw[wN]at*;have Jv:qs.length+1<=k:=hlen;(have c0:(0:Int)<((qs.length+1:Nat):Int):=by omega);(have c1:(((qs.length+1:Nat):Int)-1).toNat=qs.length:=by omega);(have c2:(0:Int)<=((qs.length+1:Nat):Int)-1:=by omega);(have c3:((qs.length+1:Nat):Int)-1<((qs.length+1:Nat):Int):=by omega);(have g1:(sw qs++[A.agg [.int .i64 q.f,.int .i64 q.t]])[qs.length]? =some (.agg [.int .i64 q.f,.int .i64 q.t]):=by have:=mr (x:=A.agg [.int .i64 q.f,.int .i64 q.t]) (l:=sw qs);rwa [zU]at this);(have g2: ∀v,fF (sw qs++[A.agg [.int .i64 q.f,.int .i64 q.t]]) qs.length v=sw qs++[v]:=fun v=>by have:=FO (x:=A.agg [.int .i64 q.f,.int .i64 q.t]) (v:=v) (l:=sw qs) (α:=[]);rwa [zU]at this);(have gl:(sw qs++[A.agg [.int .i64 q.f,.int .i64 q.t]]).length=qs.length+1:=by rw[ai,zU];rfl);have gt:(sw qs++[A.agg [.int .i64 q.f,.int .i64 q.t]]).take (qs.length+1)=sw qs++[A.agg [.int .i64 q.f,.int .i64 q.t]]:=ab (dj gl);cases hq:(q.t==x-1)with|true=>((have M1:q.t=x-1:=by simpa using hq);(have K_:gj (q::qs) ⟨x,y-1⟩=⟨q.f,y-1⟩::qs:=by simp only[gj];rw[if_pos (by omega),if_pos (by omega)]);rw[K_,wN]at qG;rcases ho with rfl|rfl|rfl<;>cases hax:aX a x<;>cases hbx:aX b x<;>rw[hax,hbx]at hP<;>simp[opF,hp]at hP<;>simp-implicitDefEqProofs (maxSteps:=9^6) (disch:=first|omega|decide) only[go_sem,↓reduceIte,seval,ax,e1,e2,hax,hbx,t1,t2,t3,c0,c1,c2,c3,g1,g2,hq,wrap_i64,aa];all_goals exact qG)|false=>((have M1:q.t≠x-1:=by simpa using hq);(have K_:gj (q::qs) ⟨x,y-1⟩=⟨x,y-1⟩::q::qs:=by simp only[gj];rw[if_neg (by omega)]);rw[K_,wN,wN]at qG;rcases ho with rfl|rfl|rfl<;>cases hax:aX a x<;>cases hbx:aX b x<;>rw[hax,hbx]at hP<;>simp[opF,hp]at hP<;>simp-implicitDefEqProofs (maxSteps:=9^6) (disch:=first|omega|decide) only[go_sem,↓reduceIte,seval,ax,e1,e2,hax,hbx,t1,t2,t3,c0,c1,c2,c3,g1,g2,gl,gt,hq,wrap_i64,aa];all_goals exact⟨⟨ae _,by omega⟩,qG⟩)))};{(have ax: ¬(k:Int)+1<(e.length:Int):=by omega);(have yU:k=e.length-1:=by omega);subst yU;(have mO:(sw (Bt (nI op a b) e (e.length-1)))=(fV (nI op a b)).map bF.enc:=by unfold sw;rw[mN]);(have Jw:(Bt (nI op a b) e (e.length-1)).length=(sw (Bt (nI op a b) e (e.length-1))).length:=by rw[zU]);simp-implicitDefEqProofs (disch:=first|omega|decide) only[go_sem,↓reduceIte,seval,ax,wrap_i64,Jw,aa,bz];rw[mO];exact⟨ae _,rfl⟩}}
end Go.Proofs.YtfnohjheonlnmaaGreat
namespace Go.ez
theorem Jx{P:Program}{f:FuncId}{xs:List A}{S:List Nat}(k:Nat)(h:iZ P f xs [] .ec [] S):iZ P f xs [] (.row 0 0 k 0 false) [.row k []] S:=by intro N φ w vs hN mB dM gn;refine Calls.mono (h N φ w vs hN mB dM gn) ?_;rintro e w' ⟨v,ka,rfl,hv,hrel',ht,hl⟩;have e1:φ=[]:=aR.1 mB.len;have e2:ka=[]:=aR.1 hrel'.len;subst e1;subst e2;refine⟨v,[.nil],rfl, ?_, ?_, ?_,ak _⟩;{simp only[bV]at hv⊢;exact .inl ⟨.nil,rfl,by simp,trivial,fun _=>trivial,none,hv⟩};{exact{len:=rfl,gZ:=fun n o p ho hp=>by cases n with|succ n=>(simp[fc]at ho)|zero=>(simp only[fc,bc]at ho;simp at hp;subst ho;subst hp;simp[cb]),own:=fun n b k' hn=>by cases n<;>simp at hn,inj:=fun n m b k' HD hn=>by cases n<;>simp at hn}};{exact{os:=ht.os,tape:=ht.tape,output:=ht.output,drawn:=ht.drawn,size:=ht.size,block:=ht.block,shape:=ht.shape,own:=fun n b k' hn=>by cases n<;>simp at hn,stay:=fun n p _ hn=>by simp at hn}}
theorem Jy{P:Program}{f:FuncId}{H H':List Obj}{r:A}{S:List Nat}(h1:iZ P f [.emp true] H r H' S)(h2:iZ P f [.emp false] H r H' S):iZ P f [.aD []] H r H' S:=fun N φ w vs hN mB dM hr=>by simp only[cL,bV]at hr;obtain⟨v,_,rfl,⟨_,a,cap,rfl,_,_⟩,rfl⟩:=hr;cases a with|none=>(exact h1 N φ w _ hN mB dM (by simp only[cL,bV];exact⟨_,_,rfl,⟨none,cap,rfl,rfl⟩,rfl⟩))|some q=>(exact h2 N φ w _ hN mB dM (by simp only[cL,bV];exact⟨_,_,rfl,⟨some q,cap,rfl,rfl⟩,rfl⟩))
theorem FP{P:Program}{f:FuncId}{xs ys:List A}{r:A}(h:bh P f ys (· =r))(hx: ∀(E:Env) (vs:List Value),cL E xs vs->cL E ys vs)(hp:r.pure=true):iZ P f xs [] r [] []:=by intro N φ w vs hN mB dM gn;have e1:φ=[]:=aR.1 mB.len;subst e1;(have Sg: ∀b,(bx N [] w).N b->b<w.heap.size:=fun b hb=>by rcases hb with hb|⟨n,k,hn⟩;{exact hN b hb};{simp at hn});refine Calls.mono (h (bx N [] w).N w vs Sg (hx _ _ gn)) ?_;rintro e w' ⟨v,r',rfl,rfl,hr,hg⟩;refine⟨v,[],rfl, ?_, ?_, ?_,ae _⟩;{exact hr};{exact{len:=rfl,gZ:=fun n o p ho=>by cases n<;>simp[fc]at ho,own:=fun n b k hn=>by simp at hn,inj:=fun n m b k k' hn=>by simp at hn}};{exact{os:=hg.os,tape:=hg.tape,output:=hg.output,drawn:=hg.drawn,size:=hg.size,block:=fun b hb _=>hg.block b hb,shape:=fun b c e fr hb=>⟨c,fr,by rw[hg.block b (bP.1 hb).1];exact hb,rfl⟩,own:=fun n b k hn=>by simp at hn,stay:=fun n p _ hn=>hn}}
theorem K'{E:Env}{es:List A}{v:Value}(h:bV E (.clip es) v):bV E (.aD es) v:=by simp only[bV]at h⊢;obtain⟨hp,a,hv,hl⟩:=h;exact⟨hp,a,_,hv,ae _,hl⟩
theorem mu{x v:A}: ∀{l:List A},fF (l++[x]) l.length v=l++[v]| []=>rfl|y::l=>by simp only[bB,aw,fF,mu]
theorem mr{x:A}: ∀{l:List A},(l++[x])[l.length]? =some x| []=>rfl|y::l=>by simp[mr]
open Go.RowKit
structure OC(b:Nat)(D:List Value)(w w':World):Prop where
 os:w'.os=w.os
 tape:w'.tape=w.tape
 output:w'.output=w.output
 drawn:w.drawn<=w'.drawn
 size:w.heap.size<=w'.heap.size
 block: ∀c,c<w.heap.size->c≠b->w'.heap[c]? =w.heap[c]?
 self: ∀(cc:Array Value) (e:TypeId) (fr:Nat×Nat),w.heap[b]? =some (.cells cc e fr)-> ∃Nv,w'.heap[b]? =some (.cells Nv e fr)/\Nv.size=cc.size
 cells:w'.rangeAt b 0 D
theorem zW{P:Program}{f g:FuncId}{k:Nat}{c:Bool}{es Dd:List A}{D:List Value}(hk:0<k)(hD: ∀E,bG E k Dd D)(hp:A.pure.cY Dd=true)(h1: ∀u∈D,u.oneCell'=true)(hlen:Dd.length=es.length)(KF:es=[]-> ∀(w:World) (q:Option Addr) (cap:Nat),Calls P f #[.slice q 0 cap,.func (.func g) #[] #[]] w fun e w'=>e= .returned (.tuple #[])/\w'=w)(vb: ∀(E:Env) (b cap:Nat) (cc:Array Value) (e:TypeId) (fr:Nat×Nat),es≠ []->E.w.heap[b]? =some (.cells cc e fr)->se cc fr->jT E k b 0 es->k*cap<=cc.size->es.length<=cap->Calls P f #[.slice (some ⟨b,0,none⟩) es.length cap,.func (.func g) #[] #[]] E.w fun e w'=>e= .returned (.tuple #[])/\OC b D E.w w'):iZ P f [.row 0 0 k es.length c,.fn g []] [.row k es] (.eU []) [.row k Dd] []:=by intro N φ w vs hN mB dM gn;simp only[cL]at gn;obtain⟨v0,_,rfl,hv0,v1,_,rfl,hv1,rfl⟩:=gn;simp only[bV,cL]at hv1;obtain⟨us,rfl,rfl⟩:=hv1;have hφl:φ.length=1:=mB.len;(have stay: ∀(w':World),w'=w-> ∃v ka,(Ending.returned (.tuple #[]):Ending)= .returned v/\bV (bx N ka w') (.eU []) v/\tp N ka [.row k es] w'/\NF φ w [] ka w'/\1<=1:=by rintro w' rfl;exact⟨_,φ,rfl,by simp[bV,cL],mB,⟨rfl,rfl,rfl,ae _,ae _,fun _ _ _=>rfl,fun _ c _ fr h=>⟨c,fr,h,rfl⟩,fun n b k hn=> .inr ⟨n,k,hn⟩,fun _ _ _ h=>h⟩,ae _⟩);(have zx:es=[]-> ∀(q:Option Addr) (cap:Nat),Calls P f #[.slice q 0 cap,.func (.func g) #[] #[]] w fun e w'=> ∃v ka,e= .returned v/\bV (bx N ka w') (.eU []) v/\tp N ka [.row k Dd] w'/\NF φ w [] ka w'/\ [Obj.row k es].length<=[Obj.row k Dd].length:=by intro EE q cap;(have hes':Dd=es:=by subst EE;exact aR.1 (by simpa using hlen));rw[hes'];refine Calls.mono (KF EE w q cap) ?_;rintro e w' ⟨rfl,hw⟩;exact stay w' hw);by_cases EE:es=[];{(have hl0:es.length=0:=by rw[EE];rfl);simp only[bV]at hv0;rcases hv0 with⟨o,_,_,_,_,q,rfl⟩|⟨b,cap,c',e',fr,kV,rfl,wi,_,hb,HM⟩;{exact zx EE q 0};{rw[hl0];exact zx EE _ cap}};{simp only[bV]at hv0;rcases hv0 with⟨o,_,_,h0,_⟩|⟨b,cap,c',e',fr,kV,rfl,wi,_,hb,HM⟩;{exact absurd (aR.1 h0) EE};{have k9:=mB.gZ 0 (.row k es) (.loc b k) rfl kV;simp only[cb]at k9;obtain⟨_,IZ,⟨cc,ee,ffr,QS,Xt⟩,hE⟩:=k9;have u9:w.heap[b]? =some (.cells c' e' fr):=hb;have va:w.heap[b]? =some (.cells cc ee ffr):=QS;rw[u9]at va;simp only[bc,Go.Obj.cells.injEq]at va;obtain⟨rfl,rfl,rfl⟩:=va;rw[lJ]at HM⊢;refine Calls.mono (vb (bx N φ w) b cap c' e' fr EE u9 Xt hE (by omega) wi) ?_;rintro e w' ⟨rfl,hT⟩;obtain⟨Nv,va,qc⟩:=hT.self c' e' fr u9;have hwid:w'.heap.size>=w.heap.size:=hT.size;refine⟨_,φ,rfl,by simp[bV,cL], ?_, ?_,ae _⟩;{exact{len:=by simpa using hφl,gZ:=fun n o p ho tf=>by cases n with|succ n=>(simp[fc]at ho)|zero=>(simp only[fc,bc]at ho;subst ho;have Ku:φ[0]? =some (im.loc b k):=kV;rw[Ku]at tf;obtain rfl:=ah tf;simp only[cb];refine⟨trivial,hp,⟨Nv,e',fr,va,fun j hj=>Xt j (by omega)⟩, ?_⟩;exact bG.mem (hD (bx N φ w')) hT.cells h1),own:=fun n b' k' hn=>⟨cH (mB.own n b' k' hn).1 hT.size,(mB.own n b' k' hn).2⟩,inj:=mB.inj}};{exact{os:=hT.os,tape:=hT.tape,output:=hT.output,drawn:=hT.drawn,size:=hT.size,block:=fun b' u9 qW=>hT.block b' u9 fun e=>by subst e;exact qW 0 k kV,shape:=fun b' c₁ e₁ fr₁ h₁=>by by_cases hbb:b'=b;{subst hbb;obtain⟨c₂,h₂,h₃⟩:=hT.self c₁ e₁ fr₁ h₁;exact⟨c₂,fr₁,h₂,h₃⟩};{have:b'<w.heap.size:=(bP.1 h₁).1;exact⟨c₁,fr₁,by rw[hT.block b' this hbb];exact h₁,rfl⟩},own:=fun n b' k' hn=> .inr ⟨n,k',hn⟩,stay:=fun _ _ _ h=>h}}}}
def mD:A->Value| .int k n=> .int k n| .bool b=> .bool b| .str s=> .string ⟨s.toArray⟩|_=>undef
def scalar:A->Bool| .int _ _=>true| .bool _=>true| .str _=>true|_=>false
theorem oK{E:Env}{x:A}{v:Value}(h:scalar x=true):bV E x v ↔ v=mD x:=by cases x<;>simp[scalar]at h<;>simp[bV,mD]
theorem yo{x:A}(h:scalar x=true):(mD x).oneCell'=true:=by cases x<;>simp[scalar]at h<;>rfl
theorem CW{x:A}(h:scalar x=true):x.pure=true:=by cases x<;>simp[scalar]at h<;>simp[A.pure]
theorem pT{E:Env}: ∀{xs:List A},(∀x∈xs,scalar x=true)->cL E xs (xs.map mD)| [],_=>by simp[cL]|x::xs,h=>by simp only[aP,cL];exact⟨_,_,rfl,(oK (h x (by simp))).2 rfl,pT fun y hy=>h y (by simp[hy])⟩
theorem xz: ∀{xs:List A},(∀x∈xs,scalar x=true)->A.pure.cY xs=true| [],_=>rfl|x::xs,h=>by simp only[A.pure.cY,ag];exact⟨CW (h x (by simp)),xz fun y hy=>h y (by simp[hy])⟩
theorem CX{α:Type}{k:Nat}(hk:0<k): ∀{ls:List (List α)},(∀l∈ls,l.length=k)-> ∀j:Nat,ls.flatten[j]? =(ls[j/k]?).bind fun l=>l[j % k]?| [],_,j=>by simp|l::ls,h,j=>by have hl:=h l (by simp);rw[iR];by_cases hj:j<k;{rw[ck (by omega),Nat.div_eq_of_lt hj,Nat.mod_eq_of_lt hj];simp};{rw[bX (by omega),CX hk (fun x hx=>h x (by simp[hx])) (j-l.length),hl];(have h1:j/k=(j-k)/k+1:=by rw[Nat.div_eq_sub_div hk (by omega)]);(have h2:j % k=(j-k) % k:=by rw[Nat.mod_eq_sub_mod (by omega)]);rw[h1,h2];simp}
theorem CY{E:Env}{k:Nat}{β:Type}{enc:β->List A}(hk: ∀x,(enc x).length=k)(hs: ∀x,∀a∈enc x,scalar a=true): ∀l:List β,bG E k (l.map fun x=> .agg (enc x)) ((l.map fun x=>(enc x).map mD).flatten)| []=>by simp[bG]|x::l=>by (have h1:((enc x).map mD).length=k:=by rw[aa,hk]);simp only[aP,bG,A.cells,iR];refine⟨hk x,by rw[ai];omega, ?_, ?_⟩;{rw[cx (by omega),ab (by omega)];exact pT (hs x)};{rw[eB (by omega),ay (by omega)];exact CY hk hs l}
theorem FQ{E:Env}{β:Type}{enc:β->A}(hs: ∀x,scalar (enc x)=true): ∀l:List β,bG E 1 (l.map enc) (l.map fun x=>mD (enc x))| []=>by simp[bG]|x::l=>by (have hc:(enc x).cells=[enc x]:=by have:=hs x;cases h:enc x<;>rw[h]at this<;>simp[scalar]at this<;>rfl);simp only[aP,bG,hc];refine⟨rfl,by simp, ?_, ?_⟩;{simp only[ic,iX,cL];exact⟨_,[],rfl,(oK (hs x)).2 rfl,rfl⟩};{simpa using FQ hs l}
theorem BA{β:Type}{f:β->A}(h: ∀x,(f x).pure=true): ∀l:List β,A.pure.cY (l.map f)=true| []=>rfl|x::l=>by simp[A.pure.cY,h x,BA h l]
open Go.Sort in theorem Jz{w w':World}(g:jW w w'): ∃q os,w'=Sort.grow (w.drewN q) os:=by refine⟨w'.drawn-w.drawn,w'.heap.extract w.heap.size w'.heap.size, ?_⟩;(have hh:w.heap++w'.heap.extract w.heap.size w'.heap.size=w'.heap:=by have qc:=g.size;apply Array.ext_getElem?;intro i;by_cases hi:i<w.heap.size;{rw[fM hi,g.block i hi]};{rw[Array.getElem?_append_right (by omega),Array.getElem?_extract];by_cases h2:i<w'.heap.size;{rw[if_pos (by omega),show w.heap.size+(i-w.heap.size)=i by omega]};{rw[if_neg (by omega),Array.getElem?_eq_none (by omega)]}});have hd:=g.drawn;unfold Sort.grow World.drewN;rw[show w.drawn+(w'.drawn-w.drawn)=w'.drawn by omega];obtain⟨heap,tape,drawn,os,output⟩:=w';have h1:=g.os;have h2:=g.tape;have h3:=g.output;simp only at h1 h2 h3 hh⊢;rw[hh,h1,h2,h3]
open Go.Sort in
theorem CZ{w:World}{b n:Nat}{F F0:Array Value}{os:Array Go.Obj}(h0:Holds id w b 0 F0)(hs:F.size=F0.size)(hb:b<w.heap.size):OC b F.toList w (Sort.grow (putRow id (Sort.ahead w n) b 0 F) os) where
 os:=rfl
 tape:=rfl
 output:=rfl
 drawn:=Nat.le_add_right _ _
 size:=by show w.heap.size<=((w.heap.modify b _)++os).size;simp
 block:=fun c hc eG=>by show((w.heap.modify b _)++os)[c]? =_;rw[fM (by simpa using hc),Array.getElem?_modify,if_neg (fy eG)]
 self:=fun cc e fr QS=>by
  refine⟨putCells id 0 F cc, ?_,by simp[putCells]⟩
  show((w.heap.modify b _)++os)[b]? =_;rw[fM (by simpa using hb),Array.getElem?_modify,if_pos rfl,QS]
  rfl
 cells:=fun j v hj=>by
  have hjF:j<F.size:=by have:=(ar.1 hj).1;simpa using this
  have h1:=cell?_putRow id (Sort.ahead w n) b 0 F0 F (holds_ahead id w n b 0 F0 h0) hs j hjF
  have h2:(Sort.grow (putRow id (Sort.ahead w n) b 0 F) os).cell? ⟨b,0+j,none⟩=(putRow id (Sort.ahead w n) b 0 F).cell? ⟨b,0+j,none⟩:=by
   unfold World.cell?;show(match((putRow id (Sort.ahead w n) b 0 F).heap++os)[b]? with|some (.cells c _ _)=>_|_=>none)=_;rw[fM (by simpa using hb)]
   rfl
  rw[h2,h1]
  have:F[j]! =v:=by
   rw[getElem!_pos F j hjF]
   have:=(ar.1 hj).2;simpa using this
  rw[this];rfl
theorem C0{w:World}{b:Nat}{c:Array Value}{e:TypeId}{fr:Nat×Nat}(hb:w.heap[b]? =some (.cells c e fr))(hf:se c fr){j:Nat}(hj:j<c.size):w.frozen? ⟨b,j,none⟩=false:=by have:=(u' (w:=w) (b:=b) (off:=j) (n:=1) hb hf (by omega) 0 (by omega)).2;simpa using this
def ik{β:Type} [Inhabited β](cf:β->β->Int)(l:List β):List β:=(Sort.pdq (Go.Proofs.ltOf cf) l.toArray 0 l.toArray.size (Lib.bitLen l.toArray.size) true true).toList
theorem ji{β:Type} [Inhabited β]{cf:β->β->Int}(hO:Sort.SWO (Go.Proofs.ltOf cf))(l:List β):(ik cf l).Perm l/\(ik cf l).Pairwise (fun x y=> ¬cf y x<0):=by obtain⟨⟨h1,_,h3⟩,h4⟩:=Sort.pdq_sorts (Go.Proofs.ltOf cf) hO l.toArray 0 l.toArray.size (Lib.bitLen l.toArray.size) true true (ak _) (ae _) (Or.inl rfl);refine⟨?_, ?_⟩;{unfold ik;(have e: ∀d:Array β,d.size=l.toArray.size->d.extract 0 l.toArray.size=d:=fun d hd=>by rw[<-hd];simp);rw[e _ h1,e _ rfl]at h3;simpa using h3};{unfold ik;rw[cm];intro i j hi hj Bj;(have AW:j<l.toArray.size:=by rw[<-h1];simpa using hj);have:=h4 i j (ak _) Bj AW;(have hi2:i<(Sort.pdq (Go.Proofs.ltOf cf) l.toArray 0 l.toArray.size (Lib.bitLen l.toArray.size) true true).size:=by simpa using hi);(have hj2:j<(Sort.pdq (Go.Proofs.ltOf cf) l.toArray 0 l.toArray.size (Lib.bitLen l.toArray.size) true true).size:=by simpa using hj);rw[getElem!_pos _ i hi2,getElem!_pos _ j hj2]at this;simpa[Go.Proofs.ltOf]using this}
open Go.Shelf Go.Lib Go.Sort Go.Proofs in
/-- slices.SortFunc of structs, by a function that captures nothing. -/
theorem vG{P:Program}{ρ:Ren}{β:Type} [Inhabited β](L:SlLaysF0.n6 P ρ){k:Nat}(zg:0<k)(aE: ∀w,(isAgg (ρ.t 24)).run P w= .ok true w)(zE: ∀w,(Go.sizeOf (ρ.t 24)).run P w= .ok k w)(enc:β->List A)(hk: ∀x,(enc x).length=k)(hs: ∀x,∀a∈enc x,scalar a=true)
 (cf:β->β->Int) (hO:SWO (ltOf cf)) {g:FuncId} (hg:nP P g) (hcmp: ∀x y,bh P g [.agg (enc x),.agg (enc y)] (· = .int .i64 (cf x y))) (l:List β) (qc:l.length<4611686018427387904) (c:Bool):
 iZ P (ρ.f 6) [.row 0 0 k l.length c,.fn g []] [.row k (l.map fun x=> .agg (enc x))] (.eU []) [.row k ((ik cf l).map fun x=> .agg (enc x))] []:=by
 have hperm:=(ji hO l).1;have Xu:(l.map fun x=>A.agg (enc x)).length=l.length:=aa _;have hle: ∀x,((enc x).map mD).length=k:=fun x=>by rw[aa,hk]
 have gO: ∀x,∀v∈(enc x).map mD,v.oneCell'=true:=fun x v hv=>by obtain⟨a,ha,rfl⟩:=bQ.1 hv;exact yo (hs x a ha)
 have:=zW (P:=P) (f:=ρ.f 6) (g:=g) (k:=k) (c:=c) (es:=l.map fun x=>A.agg (enc x)) (Dd:=(ik cf l).map fun x=>A.agg (enc x)) (D:=((ik cf l).map fun x=>(enc x).map mD).flatten) zg
  (fun E=>CY hk hs _) (BA (fun x=>by simp only[A.pure];exact xz (hs x)) _) (fun u hu=>by obtain⟨ys,Cp,hu⟩:=List.mem_flatten.1 hu;obtain⟨x,_,rfl⟩:=bQ.1 Cp;exact gO x u hu) (by rw[aa,aa];exact hperm.length_eq)
  (fun _ w q cap=>AnyF.slices_SortFunc_none L q cap _ w) ?_
 · rw[Xu]at this;exact this
 intro E b cap cc e fr eG hb Xt hE HM wi;rw[Xu]at wi⊢;have hbs:b<E.w.heap.size:=(bP.1 hb).1;have hmul:l.length*k<=cc.size:=a_ (by rw[j6];exact Nat.mul_le_mul_left _ wi) HM
 have hH:HoldsK (fun x=>(enc x).map mD) k E.w b 0 l.toArray:=by
  intro j hj;rw[size_flatK]at hj;have AW:j<l.length*k:=by simpa using hj
  have hq:j/k<l.length:=(kq zg).2 AW;have hr:j % k<k:=Nat.mod_lt _ zg;refine⟨?_,by rw[bU];exact C0 hb Xt (by omega)⟩
  obtain⟨_,hM⟩:=ie.1 hE (j/k) (.agg (enc l[j/k])) (by simp[hq])
  have UX:j % k<(enc l[j/k]).length:=by rw[hk];exact hr
  obtain⟨v,hv,_,gn⟩:=dg.1 hM (j % k) _ (ad (by simpa[A.cells]using UX))
  have A':=(oK (hs _ _ (aj _))).1 gn;rw[show 0+j/k*k+j % k=0+j by rw[bU,bU,j6];exact Nat.div_add_mod j k]at hv;rw[hv,A',get_flatK _ _ _ _ hj]
  simp only[id]
  have e1:l.toArray[j/k]! =l[j/k]:=by rw[getElem!_pos _ _ (by simpa using hq)];simp
  rw[e1,getElem!_pos _ _ (by rw[aa];exact UX)]
  simp only[A.cells,List.getElem_map]
  rfl
 have nJ:CmpLays P g #[] (fun x=>(enc x).map mD) k cf b 0 l.toArray.size E.w:=by
  intro m os dk hdk x y
  have gn:cL ⟨fun _=>False,[],sortWorldK (fun x=>(enc x).map mD) k E.w b 0 m dk os⟩ [.agg (enc x),.agg (enc y)] [.agg ((enc x).map mD).toArray,.agg ((enc y).map mD).toArray]:=by
   simp only[cL,bV]
   exact⟨_,_,rfl,⟨_,rfl,pT (hs x),gO x⟩,_,_,rfl,⟨_,rfl,pT (hs y),gO y⟩,rfl⟩
  refine Calls.mono (hcmp x y (fun _=>False) _ _ (fun b h=>h.elim) gn) ?_;rintro e w' ⟨v,r,rfl,rfl,hr,hgr⟩
  simp only[bV]at hr;subst hr;exact⟨rfl,Jz hgr⟩
 have OD:=AnyQ.slices_SortFunc_eq L k aE zE (fun x=>(enc x).map mD) hle gO cf hO g #[] b 0 cap l.toArray E.w (fun args w=>pJ hg args w) nJ hH hbs (by simpa using qc)
 have OE:(pdq (ltOf cf) l.toArray 0 l.toArray.size (Lib.bitLen l.toArray.size) true true).size=l.toArray.size:=(pdq_sorts (ltOf cf) hO l.toArray 0 l.toArray.size (Lib.bitLen l.toArray.size) true true (ak _) (ae _) (Or.inl rfl)).1.1;have s0:l.toArray.size=l.length:=by simp
 rw[s0]at OD;refine Calls.mono OD ?_;rintro e w' ⟨rfl,n,os,rfl⟩
 refine⟨rfl, ?_⟩
 have zi:((ik cf l).map fun x=>(enc x).map mD).flatten=(flatK (fun x=>(enc x).map mD) k (pdq (ltOf cf) l.toArray 0 l.length (Lib.bitLen l.length) true true)).toList:=by
  rw[s0]at OE;have hsl2:(ik cf l)=(pdq (ltOf cf) l.toArray 0 l.length (Lib.bitLen l.length) true true).toList:=by unfold ik;rw[s0]
  rw[hsl2]
  generalize pdq (ltOf cf) l.toArray 0 l.length (Lib.bitLen l.length) true true=d at OE⊢;apply j_;intro j;rw[CX zg (fun ys Cp=>by obtain⟨x,_,rfl⟩:=bQ.1 Cp;exact hle x)]
  by_cases hj:j<d.size*k
  · have hq:j/k<d.size:=(kq zg).2 hj
    have hr:j % k<k:=Nat.mod_lt _ zg;have e1:(flatK (fun x=>(enc x).map mD) k d).toList[j]? =some ((flatK (fun x=>(enc x).map mD) k d)[j]!):=by rw[getElem!_pos _ j (by rw[size_flatK];exact hj)];simp[hj]
    rw[e1,get_flatK _ _ _ _ hj]
    rw[getElem!_pos d _ hq]
    have M1:j/k<d.toList.length:=by simpa using hq
    simp only[aL,ad M1,dO,aW]
    rw[getElem!_pos _ _ (by simp only[aa,hk];exact hr)]
    rw[ad (by simp only[aa,hk];exact hr)]
    simp
  · have hq:d.size<=j/k:=by
     rcases fZ (j/k) d.size with h|h
     · exact absurd ((kq zg).1 h) hj
     · exact h
    have e1:(flatK (fun x=>(enc x).map mD) k d).toList[j]? =none:=by rw[eF];rw[ij,size_flatK];omega
    rw[e1]
    simp[hq]
 rw[zi]
 unfold sortWorldK putRowK;exact CZ hH (by rw[size_flatK,size_flatK];rw[s0]at OE;rw[OE,s0]) hbs
open Go.Shelf Go.Lib Go.Sort Go.Proofs in
/-- slices.SortFunc of scalars. -/
theorem OF{P:Program}{ρ:Ren}{β:Type} [Inhabited β](L:SlLaysF.n6 P ρ)(L0:SlLaysF0.n6 P ρ)(enc:β->A)(hs: ∀x,scalar (enc x)=true)
 (cf:β->β->Int) (hO:SWO (ltOf cf)) {g:FuncId} (hg:nP P g) (hcmp: ∀x y,bh P g [enc x,enc y] (· = .int .i64 (cf x y))) (l:List β) (qc:l.length<4611686018427387904) (c:Bool):
 iZ P (ρ.f 6) [.row 0 0 1 l.length c,.fn g []] [.row 1 (l.map enc)] (.eU []) [.row 1 ((ik cf l).map enc)] []:=by
 have hperm:=(ji hO l).1;have Xu:(l.map enc).length=l.length:=aa _;have hcell: ∀x,(enc x).cells=[enc x]:=fun x=>by have:=hs x;cases h:enc x<;>rw[h]at this<;>simp[scalar]at this<;>rfl
 have:=zW (P:=P) (f:=ρ.f 6) (g:=g) (k:=1) (c:=c) (es:=l.map enc) (Dd:=(ik cf l).map enc) (D:=(ik cf l).map fun x=>mD (enc x)) (by omega)
  (fun E=>FQ hs _) (BA (fun x=>CW (hs x)) _) (fun u hu=>by obtain⟨x,_,rfl⟩:=bQ.1 hu;exact yo (hs x)) (by rw[aa,aa];exact hperm.length_eq)
  (fun _ w q cap=>AnyF.slices_SortFunc_none L0 q cap _ w) ?_
 · rw[Xu]at this;exact this
 intro E b cap cc e fr eG hb Xt hE HM wi;rw[Xu]at wi⊢;have hbs:b<E.w.heap.size:=(bP.1 hb).1
 have hH:Holds (fun x=>mD (enc x)) E.w b 0 l.toArray:=by
  intro j hj;have AW:j<l.length:=by simpa using hj
  refine⟨?_,by rw[bU];exact C0 hb Xt (by omega)⟩
  obtain⟨_,hM⟩:=ie.1 hE j (enc l[j]) (by simp[AW])
  rw[hcell]at hM;obtain⟨v,hv,_,gn⟩:=Nk.1 hM;have A':=(oK (hs _)).1 gn;rw[Nat.mul_one]at hv;rw[hv,A',getElem!_pos l.toArray j hj];simp
 have nJ:CmpLays1 P g #[] (fun x=>mD (enc x)) cf b 0 l.toArray.size E.w:=by
  intro m os dk hdk x y
  have gn:cL ⟨fun _=>False,[],sortWorld (fun x=>mD (enc x)) E.w b 0 m dk os⟩ [enc x,enc y] [mD (enc x),mD (enc y)]:=by
   simp only[cL]
   exact⟨_,_,rfl,(oK (hs x)).2 rfl,_,_,rfl,(oK (hs y)).2 rfl,rfl⟩
  refine Calls.mono (hcmp x y (fun _=>False) _ _ (fun b h=>h.elim) gn) ?_;rintro e w' ⟨v,r,rfl,rfl,hr,hgr⟩
  simp only[bV]at hr;subst hr;exact⟨rfl,Jz hgr⟩
 have OD:=Any.slices_SortFunc_eq L (fun x=>mD (enc x)) (fun x=>yo (hs x)) cf hO g #[] b 0 cap l.toArray E.w (fun args w=>pJ hg args w) nJ hH hbs (by simpa using qc)
 have OE:(pdq (ltOf cf) l.toArray 0 l.toArray.size (Lib.bitLen l.toArray.size) true true).size=l.toArray.size:=(pdq_sorts (ltOf cf) hO l.toArray 0 l.toArray.size (Lib.bitLen l.toArray.size) true true (ak _) (ae _) (Or.inl rfl)).1.1;have s0:l.toArray.size=l.length:=by simp
 rw[s0]at OD OE;refine Calls.mono OD ?_;rintro e w' ⟨rfl,n,os,rfl⟩
 refine⟨rfl, ?_⟩
 have hsl2:(ik cf l)=(pdq (ltOf cf) l.toArray 0 l.length (Lib.bitLen l.length) true true).toList:=by unfold ik;rw[s0]
 rw[hsl2]
 generalize pdq (ltOf cf) l.toArray 0 l.length (Lib.bitLen l.length) true true=d at OE⊢
 have hput: ∀(w:World) (d:Array β),putRow (fun x=>mD (enc x)) w b 0 d=putRow id w b 0 (d.map fun x=>mD (enc x)):=fun w d=>by
  unfold putRow
  congr 1
  funext c
  unfold putCells;apply Array.ext
  · simp
  · intro i h1 h2
    simp only[Array.getElem_mapIdx,Array.size_map,ak,true_and,bU,Nat.sub_zero,id]
    split
    · rename_i hi
      rw[getElem!_pos d i hi,getElem!_pos _ i (by simpa using hi)];simp
    · rfl
 have hH':Holds id E.w b 0 (l.toArray.map fun x=>mD (enc x)):=fun j hj=>by
  have AW:j<l.toArray.size:=by simpa using hj
  obtain⟨h1,h2⟩:=hH j AW;refine⟨?_,h2⟩
  rw[h1,getElem!_pos l.toArray j AW,getElem!_pos (l.toArray.map fun x=>mD (enc x)) j hj];simp
 have he:(d.toList.map fun x=>mD (enc x))=(d.map fun x=>mD (enc x)).toList:=by simp
 rw[he]
 unfold sortWorld;rw[hput]
 exact CZ hH' (by simp[OE]) hbs
end Go.ez
namespace Go.Proofs
open Go.Shelf
def YtfnohjheonlnmaaGreat.OG:Go.Shelf.Ren:=⟨fun|6=>234|15=>222|14=>265|28=>244|29=>245|20=>279|21=>280|22=>281|23=>282|24=>283|25=>284|26=>285|27=>286|46=>290|47=>267|48=>268|49=>291|50=>292|57=>293|n=>n,fun|22=>141|24=>146|25=>237|3=>3|39=>228|0=>0|53=>62|55=>248|4=>4|46=>240|45=>239|50=>244|5=>5|9=>9|66=>261|70=>265|76=>278|77=>279|n=>n,fun|n=>n⟩
theorem YtfnohjheonlnmaaGreat.sortRun:Go.Proofs.SlLaysF0.n6 Tryz.prog YtfnohjheonlnmaaGreat.OG:={mixed:=by kernel_rfl,f6:=⟨Tryz.f234.name,by decide,Tryz.func234.trans (congrArg some (by kernel_rfl))⟩,f14:=⟨Tryz.f265.name,by decide,Tryz.func265.trans (congrArg some (by kernel_rfl))⟩,f15:=Tryz.func222.trans (congrArg some (by kernel_rfl)),f20:=⟨Tryz.f279.name,by decide,Tryz.func279.trans (congrArg some (by kernel_rfl))⟩,f21:=⟨Tryz.f280.name,by decide,Tryz.func280.trans (congrArg some (by kernel_rfl))⟩,f22:=⟨Tryz.f281.name,by decide,Tryz.func281.trans (congrArg some (by kernel_rfl))⟩,f23:=⟨Tryz.f282.name,by decide,Tryz.func282.trans (congrArg some (by kernel_rfl))⟩,f24:=⟨Tryz.f283.name,by decide,Tryz.func283.trans (congrArg some (by kernel_rfl))⟩,f25:=⟨Tryz.f284.name,by decide,Tryz.func284.trans (congrArg some (by kernel_rfl))⟩,f26:=⟨Tryz.f285.name,by decide,Tryz.func285.trans (congrArg some (by kernel_rfl))⟩,f27:=⟨Tryz.f286.name,by decide,Tryz.func286.trans (congrArg some (by kernel_rfl))⟩,f28:=Tryz.func244.trans (congrArg some (by kernel_rfl)),f29:=Tryz.func245.trans (congrArg some (by kernel_rfl)),f46:=⟨Tryz.f290.name,by decide,Tryz.func290.trans (congrArg some (by kernel_rfl))⟩,f47:=Tryz.func267.trans (congrArg some (by kernel_rfl)),f48:=Tryz.func268.trans (congrArg some (by kernel_rfl)),f49:=⟨Tryz.f291.name,by decide,Tryz.func291.trans (congrArg some (by kernel_rfl))⟩,f50:=⟨Tryz.f292.name,by decide,Tryz.func292.trans (congrArg some (by kernel_rfl))⟩,f57:=⟨Tryz.f293.name,by decide,Tryz.func293.trans (congrArg some (by kernel_rfl))⟩,t0:=Tryz.underlying0,a0:=Tryz.isAgg0,z0:=Tryz.sizeOf0,v0:=Tryz.zeroValue0,t3:=Tryz.underlying3,a3:=Tryz.isAgg3,z3:=Tryz.sizeOf3,v3:=Tryz.zeroValue3,t4:=Tryz.underlying4,a4:=Tryz.isAgg4,z4:=Tryz.sizeOf4,v4:=Tryz.zeroValue4,t5:=Tryz.underlying5,a5:=Tryz.isAgg5,z5:=Tryz.sizeOf5,v5:=Tryz.zeroValue5,t9:=Tryz.underlying9,a9:=Tryz.isAgg9,z9:=Tryz.sizeOf9,v9:=Tryz.zeroValue9,t22:=Tryz.underlying141,a22:=Tryz.isAgg141,z22:=Tryz.sizeOf141,v22:=Tryz.zeroValue141,t25:=Tryz.underlying237,a25:=Tryz.isAgg237,z25:=Tryz.sizeOf237,v25:=Tryz.zeroValue237,t39:=Tryz.underlying228,a39:=Tryz.isAgg228,z39:=Tryz.sizeOf228,v39:=Tryz.zeroValue228,t45:=Tryz.underlying239,a45:=Tryz.isAgg239,z45:=Tryz.sizeOf239,v45:=Tryz.zeroValue239,t46:=Tryz.underlying240,a46:=Tryz.isAgg240,z46:=Tryz.sizeOf240,v46:=Tryz.zeroValue240,t50:=Tryz.underlying244,a50:=Tryz.isAgg244,z50:=Tryz.sizeOf244,v50:=Tryz.zeroValue244,t53:=Tryz.underlying62,a53:=Tryz.isAgg62,z53:=Tryz.sizeOf62,v53:=Tryz.zeroValue62,t55:=Tryz.underlying248,a55:=Tryz.isAgg248,z55:=Tryz.sizeOf248,v55:=Tryz.zeroValue248,t66:=Tryz.underlying261,a66:=Tryz.isAgg261,z66:=Tryz.sizeOf261,v66:=Tryz.zeroValue261,t70:=Tryz.underlying265,a70:=Tryz.isAgg265,z70:=Tryz.sizeOf265,v70:=Tryz.zeroValue265,t76:=Tryz.underlying278,a76:=Tryz.isAgg278,z76:=Tryz.sizeOf278,v76:=Tryz.zeroValue278,t77:=Tryz.underlying279,a77:=Tryz.isAgg279,z77:=Tryz.sizeOf279,v77:=Tryz.zeroValue279}
end Go.Proofs
namespace Go.Proofs.YtfnohjheonlnmaaGreat
open Go.ez
set_option linter.unusedSimpArgs false
set_option linter.unusedVariables false
set_option maxRecDepth 20000
set_option maxHeartbeats 4000000
theorem BB:gp Tryz.prog Xk Tryz.f219.ntmps (Tryz.f219.body.getD .skip)=true:=by kernel_rfl
theorem C1(l:List bF)(hl:l.length<=4398046511104):iZ Tryz.prog 219 [.aD (l.map bF.enc)] [] (.row 0 0 2 l.length false) [.row 2 (l.map bF.enc)] []:=by cases l with|nil=>(refine Jy (Jx 2 ?_) ?_;{refine dX nR mixed Tryz.func219 rfl (aY rfl) (by simp) (by simp) (ae _) BB ?_;unfold Tryz.f219;simp-implicitDefEqProofs (disch:=first|omega|decide) only[go_sem,↓reduceIte,seval]};{refine dX nR mixed Tryz.func219 rfl (aY rfl) (by simp) (by simp) (ak _) BB ?_;unfold Tryz.f219;simp-implicitDefEqProofs (disch:=first|omega|decide) only[go_sem,↓reduceIte,seval]})|cons r l=>(refine dX nR mixed Tryz.func219 rfl (aY rfl) (by simp) (by simp) (ak _) BB ?_;unfold Tryz.f219;obtain⟨f,t⟩:=r;simp only[aw]at hl;simp-implicitDefEqProofs (disch:=first|omega|decide) only[go_sem,↓reduceIte,seval,aa];omega)
theorem c_Of1(f t f' t':Int)(h:0<=f/\f<=1099511627776/\0<=f'/\f'<=1099511627776):bh Tryz.prog 235 [.agg [.int .i64 f,.int .i64 t],.agg [.int .i64 f',.int .i64 t']] (· = .int .i64 (f-f')):=by refine aF nR mixed Tryz.func235 ?_;unfold Tryz.f235;simp-implicitDefEqProofs (disch:=first|omega|decide) only[go_sem,↓reduceIte,seval,wrap_i64]
abbrev zX:={r:bF//fJ r=true}
instance:Inhabited zX:=⟨⟨⟨1,1⟩,by decide⟩⟩
def cfB(a b:zX):Int:=a.1.f-b.1.f
def zX.cells(r:zX):List A:=r.1.cells
theorem swoB:Go.Sort.SWO (Go.Proofs.ltOf cfB):=by (have hl: ∀a b,Go.Proofs.ltOf cfB a b=decide (a.1.f<b.1.f):=fun a b=>by unfold Go.Proofs.ltOf cfB;by_cases h:a.1.f<b.1.f;{(have:a.1.f-b.1.f<0:=by omega);simp[this,h]};{(have: ¬a.1.f-b.1.f<0:=by omega);simp[this,h]});refine⟨fun x=> ?_,fun x y z h1 h2=> ?_,fun x y z h1 h2=> ?_⟩;{rw[hl];simp};{rw[hl]at*;rw[decide_eq_true_iff]at*;omega};{rw[hl]at*;rw[decide_eq_false_iff_not]at*;omega}
theorem FR(l:List zX)(hl:l.length<4611686018427387904):iZ Tryz.prog 234 [.row 0 0 2 l.length false,.fn 235 []] [.row 2 (l.map fun x=> .agg x.cells)] (.eU []) [.row 2 ((ik cfB l).map fun x=> .agg x.cells)] []:=vG Go.Proofs.YtfnohjheonlnmaaGreat.sortRun (by omega) Tryz.isAgg146 Tryz.sizeOf146 zX.cells (fun _=>rfl) (fun x a ha=>by simp only[zX.cells,bF.cells,aA,cF,or_false]at ha;rcases ha with rfl|rfl<;>rfl) cfB swoB (dc Tryz.func235 (by kernel_rfl) (by kernel_rfl)) (fun x y=>by have h1:=fK.1 x.2;have h2:=fK.1 y.2;exact c_Of1 x.1.f x.1.t y.1.f y.1.t (by omega)) l hl false
def ow(l:List bF):List zX:=(l.filter fJ).attach.map fun x=>⟨x.1,(aT.1 x.2).2⟩
theorem BC(l:List bF):(ow l).map (·.1)=l.filter fJ:=by unfold ow;rw[dL];exact List.attach_map_subtype_val _
theorem OH(l:List bF):(ow l).map (fun x=>A.agg x.cells)=(l.filter fJ).map bF.enc:=by rw[<-BC,dL];rfl
def Dp(l:List bF):List bF:=(ik cfB (ow l)).map (·.1)
theorem Sh(l:List bF):(ik cfB (ow l)).map (fun x=>A.agg x.cells)=(Dp l).map bF.enc:=by unfold Dp;rw[dL];rfl
theorem BD(l:List bF):(Dp l).Perm (l.filter fJ):=by rw[<-BC];exact(ji swoB (ow l)).1.map _
theorem OI(l:List bF): ∀r∈Dp l,fJ r=true:=fun r hr=>by unfold Dp at hr;obtain⟨x,_,rfl⟩:=bQ.1 hr;exact x.2
theorem UY(l:List bF):(Dp l).Pairwise (fun x y=>x.f<=y.f):=by unfold Dp;rw[ke];exact(ji swoB (ow l)).2.imp fun{x y} h=>by unfold cfB at h;omega
theorem srtL_has(l:List bF)(n:Int):aX (Dp l) n=aX l n:=by rw[has_perm (BD l),R_]
theorem OJ(l:List bF):((Dp l).foldl gj []).reverse=fV (aX l):=by rw[H0 (OI l) (UY l)];congr 1;funext n;exact srtL_has l n
def srE(l:List zX):List A:=[.row 0 0 2 l.length false,.fn 235 []]
def srO(l:List zX):List Go.ez.Obj:=[.row 2 (l.map fun x=> .agg x.cells)]
def srK(l:List zX):Prop:=l.length<4611686018427387904
def srR(l:List zX):A×List Go.ez.Obj×List Nat:=(.eU [],[.row 2 ((ik cfB l).map fun x=> .agg x.cells)],[])
theorem runB_inj(x y:zX)(h:A.agg x.cells=A.agg y.cells):x=y:=Subtype.ext (bF.ga _ _ h)
theorem srO_inj(i j:List zX)(h:srO i=srO j):i=j:=by simp only[srO,dt,Go.ez.Obj.row.injEq,true_and,and_true]at h;rwa [map_inj runB_inj]at h
def Si:aN:=HY.add 209 (entry (fun(l:List bF)=>[.aD (l.map bF.enc)]) (fun l=>l.length<=4611686018427387904) (fun l=> .bool (dD l)))
theorem T13f_ok:aH Tryz.prog Si:=tK.en Tryz.func209 fun l h=>vw l h
@[go_sem] theorem T13f_old{g:FuncId}{xs:List A}(h:g≠209):Si.f g xs=HY.f g xs:=aN.aS h
theorem zY(l:List bF)(h:l.length<=4611686018427387904):Si.f 209 [.aD (l.map bF.enc)]=some (.bool (dD l)):=aN.en (Γ:=HY) l h
def La:aN:=Si.add 219 (entry (fun(l:List bF)=>[.aD (l.map bF.enc)]) (fun l=>l.length<=4398046511104) (fun l=> .aD (l.map bF.enc)))
theorem UZ:aH Tryz.prog La:=T13f_ok.en Tryz.func219 fun l h=>Oh l h
@[go_sem] theorem T13g_old{g:FuncId}{xs:List A}(h:g≠219):La.f g xs=Si.f g xs:=aN.aS h
theorem jF(l:List bF)(h:l.length<=4398046511104):La.f 219 [.aD (l.map bF.enc)]=some (.aD (l.map bF.enc)):=aN.en (Γ:=Si) l h
@[go_sem] theorem t_counts_Right{l:List bF}(h:l.length<=4611686018427387904):Si.f 209 [.aD (l.map bF.enc)]=some (.bool (dD l)):=zY l h
@[go_sem] theorem t_Clone_Run{l:List bF}(h:l.length<=4398046511104):La.f 219 [.aD (l.map bF.enc)]=some (.aD (l.map bF.enc)):=jF l h
def C13Sa:aN:=La.kb 234 (dC srE srO srK srR)
def OK:aN:={C13Sa with py:=fun f=>f==234}
theorem OL:aH Tryz.prog C13Sa:=UZ.kb (dc Tryz.func234 (by kernel_rfl) (by kernel_rfl)) (fP fun l h=>FR l h)
theorem C13S_ok:aH Tryz.prog OK:=⟨OL.f,OL.hp⟩
@[go_sem] theorem C13S_f:OK.f=La.f:=rfl
@[go_sem] theorem C13S_eff{g:FuncId}:OK.py g=(g==234):=rfl
@[go_sem] theorem C13S_frz{g:FuncId}:OK.uQ g=false:=rfl
@[go_sem] theorem C13S_fix{n:Nat}:OK.fix n=false:=rfl
@[go_sem] theorem C13S_ords{n:Nat}:OK.fS n=[]:=rfl
theorem Xv{l:List bF}{n:Nat}(hn:n=(l.filter fJ).length)(h:l.length<4611686018427387904):OK.hp 234 [.row 0 0 2 n false,.fn 235 []] [.row 2 ((l.filter fJ).map bF.enc)]=some (.eU [],[.row 2 ((Dp l).map bF.enc)],[]):=by subst hn;(have hlen:(ow l).length=(l.filter fJ).length:=by rw[<-BC];simp);have h0:C13Sa.hp 234 (srE (ow l)) (srO (ow l))=dC srE srO srK srR (srE (ow l)) (srO (ow l)):=aN.jr;have h1:OK.hp 234 (srE (ow l)) (srO (ow l))=dC srE srO srK srR (srE (ow l)) (srO (ow l)):=h0;have h2:=h1.trans (fQ (fun i j _ h=>srO_inj i j h) (ow l) (show(ow l).length<4611686018427387904 by rw[hlen];exact Nat.lt_of_le_of_lt (bZ _ _) h));simp only[srE,srO,srR,hlen,OH,Sh]at h2;exact h2
def rO(acc:List bF):List A:=acc.reverse.map bF.enc
theorem wO(q:bF)(qs:List bF):rO (q::qs)=rO qs++[.agg [.int .i64 q.f,.int .i64 q.t]]:=by simp[rO,bF.enc,bF.cells]
theorem zZ(l:List bF):(rO l).length=l.length:=by simp[rO]
theorem rowG_nil:rO []=[]:=rfl
theorem Xw(l:List bF)(k:Nat)(h:k<l.length):(l.take (k+1)).foldl gj []=gj ((l.take k).foldl gj []) l[k]:=by rw[<-an h,cG];rfl
theorem FT: ∀(l:List bF) (a:List bF),(l.foldl gj a).length<=a.length+l.length| [],a=>by simp|r::l,a=>by have h1:=FT l (gj a r);have h2:=Jn a r;simp only[bM,aw];omega
theorem C2(l:List bF)(hl:l.length<=4398046511104):bh Tryz.prog 220 [.aD (l.map bF.enc)] (· = .aD ((fV (aX l)).map bF.enc)):=by refine aF C13S_ok mixed Tryz.func220 ?_;unfold Tryz.f220;cases hr:dD l with|true=>(have e:=wK hr (fun _=>rfl);simp-implicitDefEqProofs (disch:=first|omega|decide) only[go_sem,↓reduceIte,seval,hr,aa];rw[<-e])|false=>(simp-implicitDefEqProofs (disch:=first|omega|decide) only[go_sem,↓reduceIte,seval,hr,aa];refine ch 3 2 rfl ?_;refine aQ [2,14,15] (ι:={k:Nat//k<=l.length}) (fun p=>[(16,.int .i64 p.1),(3,.row 0 0 2 ((l.take p.1).filter fJ).length false)]) (fun p=>[(0,.row 2 (((l.take p.1).filter fJ).map bF.enc))]) (fun p=>l.length-p.1) ⟨0,by omega⟩ (ak _) ?_ ?_;{simp-implicitDefEqProofs (disch:=first|omega|decide) only[go_sem,↓reduceIte,seval];simp};{rintro⟨k,hk⟩;simp only;have hf:((l.take k).filter fJ).length<=k:=a_ (bZ _ _) (by rw[aB];omega);by_cases bf:k<l.length;{(have ax:(k:Int)<(l.length:Int):=by omega);have ht:l.take (k+1)=l.take k++[l[k]]:=(an bf).symm;have e1:=run_get bf;generalize hx:l[k]=x at*;obtain⟨f,t⟩:=x;cases h1:fJ ⟨f,t⟩with|true=>(simp-implicitDefEqProofs (disch:=first|omega|decide) only[go_sem,↓reduceIte,seval,ax,e1,h1,wrap_i64,aa];refine⟨⟨ae _,by omega⟩,⟨k+1,bf⟩,⟨⟨by simp, ?_⟩, ?_⟩,by show l.length-(k+1)<l.length-k;omega⟩;{rw[ht,bL];simp[h1]};{rw[ht,bL,ab (by simp)];simp[h1,bF.enc,bF.cells]})|false=>(simp-implicitDefEqProofs (disch:=first|omega|decide) only[go_sem,↓reduceIte,seval,ax,e1,h1,wrap_i64,aa];refine⟨⟨k+1,bf⟩,⟨⟨by simp, ?_⟩, ?_⟩,by show l.length-(k+1)<l.length-k;omega⟩;{rw[ht,bL];simp[h1]};{rw[ht,bL];simp[h1]})};{(have ax: ¬(k:Int)<(l.length:Int):=by omega);rw[ab (by omega)]at*;have hs:=Xv (l:=l) rfl (by omega);have hp:=(BD l).length_eq;have mN:=OJ l;have gO:=OI l;have Xo:=UY l;rw[<-hp]at hf;simp-implicitDefEqProofs (disch:=first|omega|decide) only[go_sem,↓reduceIte,seval,ax,hs,aa,cg,b_];rw[<-hp];generalize Dp l=s at*;refine ch 6 2 rfl ?_;refine aQ [2,29,30] (ι:={j:Nat//j<=s.length}) (fun p=>[(31,.int .i64 p.1),(6,.row 1 0 2 ((s.take p.1).foldl gj []).length false)]) (fun p=>[(1,.row 2 (rO ((s.take p.1).foldl gj [])))]) (fun p=>s.length-p.1) ⟨0,by omega⟩ (ak _) ?_ ?_;{simp-implicitDefEqProofs (disch:=first|omega|decide) only[go_sem,↓reduceIte,seval];simp[rO]};{rintro⟨j,hj⟩;simp only;have uq:=FT (s.take j) [];rw[aB,bm,fw hj,bU]at uq;by_cases Lb:j<s.length;{(have ry:(j:Int)<(s.length:Int):=by omega);have e2:=run_get Lb;have eJ:=Xw s j Lb;have ho:=gO _ (aj Lb);have hR:RR ((s.take j).foldl gj []):=(fold_push (a:=[]) trivial (fun r hr=>gO r (bR hr)) (Xo.sublist (List.take_sublist _ _)) (fun _ _=>trivial)).1;have fin: ∀m',(s.take (j+1)).foldl gj []=m'-> ∃i:{j:Nat//j<=s.length},(((j:Int)+1=(i.1:Int)/\m'.length=((s.take i.1).foldl gj []).length)/\rO m'=rO ((s.take i.1).foldl gj []))/\s.length-i.1<s.length-j:=fun m' og=>⟨⟨j+1,Lb⟩,⟨⟨by simp,by rw[og]⟩,by rw[og]⟩,by show s.length-(j+1)<s.length-j;omega⟩;generalize hx:s[j]=x at*;generalize(s.take j).foldl gj []=m at*;obtain⟨f,t⟩:=x;obtain⟨o1,o2,o3⟩:=ny ho;simp only at o1 o2 o3;have qG:=fin _ eJ;cases m with|nil=>(rw[rowG_nil];simp-implicitDefEqProofs (disch:=first|omega|decide) only[go_sem,↓reduceIte,seval,ry,e2,wrap_i64,aa];exact qG)|cons q qs=>(obtain⟨p1,p2,p3⟩:=ny (kr hR);rw[wO]at*;have Jv:qs.length+1<=j:=uq;(have c0:(0:Int)<((qs.length+1:Nat):Int):=by omega);(have c1:(((qs.length+1:Nat):Int)-1).toNat=qs.length:=by omega);(have c2:(0:Int)<=((qs.length+1:Nat):Int)-1:=by omega);(have c3:((qs.length+1:Nat):Int)-1<((qs.length+1:Nat):Int):=by omega);(have g1:(rO qs++[A.agg [.int .i64 q.f,.int .i64 q.t]])[qs.length]? =some (.agg [.int .i64 q.f,.int .i64 q.t]):=by have:=mr (x:=A.agg [.int .i64 q.f,.int .i64 q.t]) (l:=rO qs);rwa [zZ]at this);(have g2: ∀v,fF (rO qs++[A.agg [.int .i64 q.f,.int .i64 q.t]]) qs.length v=rO qs++[v]:=fun v=>by have:=mu (x:=A.agg [.int .i64 q.f,.int .i64 q.t]) (v:=v) (l:=rO qs);rwa [zZ]at this);(have gl:(rO qs++[A.agg [.int .i64 q.f,.int .i64 q.t]]).length=qs.length+1:=by rw[ai,zZ];rfl);have gt:(rO qs++[A.agg [.int .i64 q.f,.int .i64 q.t]]).take (qs.length+1)=rO qs++[A.agg [.int .i64 q.f,.int .i64 q.t]]:=ab (dj gl);by_cases hq:f-q.t<2;{(have K_:gj (q::qs) ⟨f,t⟩=⟨q.f,if t>q.t then t else q.t⟩::qs:=by simp only[gj];rw[if_pos (by omega)]);rw[K_,wO]at qG;simp-implicitDefEqProofs (disch:=first|omega|decide) only[go_sem,↓reduceIte,seval,ry,e2,c0,c1,c2,c3,g1,g2,hq,wrap_i64,aa];exact qG};{(have K_:gj (q::qs) ⟨f,t⟩=⟨f,t⟩::q::qs:=by simp only[gj];rw[if_neg (by omega)]);rw[K_,wO,wO]at qG;simp-implicitDefEqProofs (disch:=first|omega|decide) only[go_sem,↓reduceIte,seval,ry,e2,c0,c1,c2,c3,g1,g2,gl,gt,hq,wrap_i64,aa];exact⟨⟨ae _,by omega⟩,qG⟩})};{(have ry: ¬(j:Int)<(s.length:Int):=by omega);rw[ab (by omega)]at*;(have mO:rO (s.foldl gj [])=(fV (aX l)).map bF.enc:=by unfold rO;rw[mN]);(have Jw:(s.foldl gj []).length=(rO (s.foldl gj [])).length:=by rw[zZ]);simp-implicitDefEqProofs (disch:=first|omega|decide) only[go_sem,↓reduceIte,seval,ry,wrap_i64,Jw,aa,bz];rw[mO];exact⟨ae _,rfl⟩}}}})
end Go.Proofs.YtfnohjheonlnmaaGreat
namespace Go.Proofs.YtfnohjheonlnmaaGreat
open Go.ez
set_option linter.unusedSimpArgs false
set_option linter.unusedVariables false
set_option linter.unusedSectionVars false
set_option maxRecDepth 20000
set_option maxHeartbeats 8000000
section
variable{D:List bF}{p e:Int}
end
section
variable{kp:Bool->Bool->Bool}{a b:List bF}(hra:dD a=true)(hrb:dD b=true)
include hra hrb
end
end Go.Proofs.YtfnohjheonlnmaaGreat
namespace Go.Proofs.YtfnohjheonlnmaaGreat
open Go.ez
set_option linter.unusedSimpArgs false
set_option linter.unusedVariables false
set_option maxRecDepth 20000
set_option maxHeartbeats 8000000
theorem of_len{l:List bF}(h:dD l=true):l.length<=1099511627776:=by (have key: ∀m:List bF,RR m->match m with| []=>True|r::l=>((r::l).length:Int)<=r.t:=by intro m;induction m with|nil=>(intro _;trivial)|cons r l ih=>(intro h;have o:=fK.1 (kr h);have ih:=ih (zO h);cases l with|nil=>(show((1:Nat):Int)<=r.t;omega)|cons q l=>(have h2:=h.2.1;have ih':((q::l).length:Int)<=q.t:=ih;show(((q::l).length+1:Nat):Int)<=r.t;omega)));have h1:=key l.reverse (qi.1 h);cases hm:l.reverse with|nil=>((have:l=[]:=by simpa using hm);subst this;simp)|cons r m=>(rw[hm]at h1;have o:=fK.1 (kr (by rw[<-hm];exact qi.1 h));(have hl:l.length=(r::m).length:=by rw[<-hm];simp);have om:((r::m).length:Int)<=r.t:=h1;omega)
def Xx:aN:=La.add 220 (entry (fun(l:List bF)=>[.aD (l.map bF.enc)]) (fun l=>l.length<=4398046511104) (fun l=> .aD ((fV (aX l)).map bF.enc)))
theorem U0:aH Tryz.prog Xx:=UZ.en Tryz.func220 fun l h=>C2 l h
@[go_sem] theorem T13u_s:Xx.pl La:=⟨fun _=>rfl,fun _=>rfl,rfl,fun _=>rfl,rfl,fun _=>rfl,rfl⟩
theorem FU(l:List bF)(h:l.length<=4398046511104):Xx.f 220 [.aD (l.map bF.enc)]=some (.aD ((fV (aX l)).map bF.enc)):=aN.en (Γ:=La) l h
@[go_sem] theorem OM{l:List bF}(h:l.length<=4398046511104):Xx.f 220 [.aD (l.map bF.enc)]=some (.aD ((fV (aX l)).map bF.enc)):=FU l h
def kz(l:List bF):Int:=match l.getLast? with|none=>0|some r=>r.t
theorem H4(l:List bF)(hl:l.length<=4398046511104):bh Tryz.prog 216 [.aD (l.map bF.enc)] (· = .int .i64 (kz (fV (aX l)))):=by refine aF U0 mixed Tryz.func216 ?_;unfold Tryz.f216;have hu:= @OM l hl;have hn:(fV (aX l)).length<=1099511627776:=UN (mq (aX l));generalize fV (aX l)=s at*;rcases List.eq_nil_or_concat s with rfl|⟨rs,r,rfl⟩;{simp-implicitDefEqProofs (disch:=first|omega|decide) only[go_sem,↓reduceIte,seval,hu,kz,aa,List.getLast?_nil]};{rw[List.concat_eq_append]at*;obtain⟨f,t⟩:=r;(have hm:(rs++[(⟨f,t⟩:bF)]).map bF.enc=rs.map bF.enc++[.agg [.int .i64 f,.int .i64 t]]:=by simp[bF.enc,bF.cells]);(have Xu:(rs.map bF.enc++[A.agg [.int .i64 f,.int .i64 t]]).length=rs.length+1:=by simp);(have hv:kz (rs++[⟨f,t⟩])=t:=by simp[kz]);rw[hm]at hu;rw[hv];(have c0:(0:Int)<((rs.length+1:Nat):Int):=by omega);(have c1:(((rs.length+1:Nat):Int)-1).toNat=rs.length:=by omega);(have c2:(0:Int)<=((rs.length+1:Nat):Int)-1:=by omega);(have g1:(rs.map bF.enc++[A.agg [.int .i64 f,.int .i64 t]])[rs.length]? =some (.agg [.int .i64 f,.int .i64 t]):=by have:=mr (x:=A.agg [.int .i64 f,.int .i64 t]) (l:=rs.map bF.enc);rwa [aa]at this);simp only[ai,cV]at hn;simp-implicitDefEqProofs (disch:=first|omega|decide) only[go_sem,↓reduceIte,seval,hu,Xu,c0,c1,c2,g1,wrap_i64,aa]}
def dY(p:Int->Bool):Nat->Int|0=>0|N+1=>dY p N+if p ((N:Int)+1)then 1 else 0
theorem Xy{s:List bF}(h:dD s=true):0<=kz s/\kz s<=1099511627776/\(0<kz s->aX s (kz s)=true)/\ ∀n,aX s n=true->n<=kz s:=by rcases List.eq_nil_or_concat s with rfl|⟨rs,r,rfl⟩;{exact⟨cO _,by simp[kz],fun h=>by simp[kz]at h,fun n h=>by simp[wI]at h⟩};{rw[List.concat_eq_append]at*;(have hv:kz (rs++[r])=r.t:=by simp[kz]);have h1:=qi.1 h;rw[List.reverse_append]at h1;have om:RR (r::rs.reverse):=h1;have o:=fK.1 (kr om);rw[hv];refine⟨by omega,o.2.2,fun _=> ?_,fun n hn=> ?_⟩;{rw[lB,vy,kr om,aG];(have:QW r r.t=true:=by simp[QW];omega);rw[this];simp};{refine Sa om n ?_;rw[<-wJ]at hn;rw[List.reverse_append]at hn;exact hn}}
def Xz:aN:=Sf.add 223 (entry (fun(v:Int×List bF×List bF)=>[.int .i64 v.1,.aD (v.2.1.map bF.enc),.aD (v.2.2.map bF.enc)]) (fun v=>OB v.1/\v.2.1.length<=50000/\v.2.2.length<=50000) (fun v=> .aD ((fV (nI v.1 v.2.1 v.2.2)).map bF.enc)))
theorem T13m_ok:aH Tryz.prog Xz:=UU.en Tryz.func223 fun v h=>K9 v.1 v.2.1 v.2.2 h.1 h.2.1 h.2.2
@[go_sem] theorem T13m_old{g:FuncId}{xs:List A}(h:g≠223):Xz.f g xs=Sf.f g xs:=aN.aS h
theorem Dq(v:Int×List bF×List bF)(h:OB v.1/\v.2.1.length<=50000/\v.2.2.length<=50000):Xz.f 223 [.int .i64 v.1,.aD (v.2.1.map bF.enc),.aD (v.2.2.map bF.enc)]=some (.aD ((fV (nI v.1 v.2.1 v.2.2)).map bF.enc)):=aN.en (Γ:=Sf) v h
theorem op2(a b:List bF):nI 2 a b=fun n=>aX a n&&aX b n:=rfl
def C13Aa:aN:=Xx.kb 219 (dC (fun l:List bF=>[.aD (l.map bF.enc)]) (fun _=>[]) (fun l=>l.length<=4398046511104) (fun l=>(.row 0 0 2 l.length false,[.row 2 (l.map bF.enc)],[])))
def Sj:aN:={C13Aa with py:=fun f=>f==220||f==219,uQ:=fun f=>f==220}
theorem ON:aH Tryz.prog C13Aa:=U0.kb (dc Tryz.func219 (by kernel_rfl) (by kernel_rfl)) (fP fun l h=>C1 l h)
theorem C13A_ok:aH Tryz.prog Sj:=⟨ON.f,ON.hp⟩
@[go_sem] theorem C13A_f:Sj.f=Xx.f:=rfl
@[go_sem] theorem C13A_eff{g:FuncId}:Sj.py g=(g==220||g==219):=rfl
@[go_sem] theorem C13A_frz{g:FuncId}:Sj.uQ g=(g==220):=rfl
@[go_sem] theorem C13A_fix{n:Nat}:Sj.fix n=false:=rfl
@[go_sem] theorem C13A_ords{n:Nat}:Sj.fS n=[]:=rfl
theorem Sk{l:List bF}(h:l.length<=4398046511104):Sj.hp 219 [.aD (l.map bF.enc)] []=some (.row 0 0 2 l.length false,[.row 2 (l.map bF.enc)],[]):=by have h0:C13Aa.hp 219 [.aD (l.map bF.enc)] []=dC (fun l:List bF=>[A.aD (l.map bF.enc)]) (fun _=>[]) (fun l=>l.length<=4398046511104) (fun l=>(.row 0 0 2 l.length false,[.row 2 (l.map bF.enc)],[])) [.aD (l.map bF.enc)] []:=aN.jr;exact h0.trans (fQ (enc:=fun l:List bF=>[A.aD (l.map bF.enc)]) (Fh:=fun _=>[]) (fun i j h _=>by simpa using h) l h)
def qZ(m:List Int):List bF:=m.map fun n=>⟨n,n⟩
theorem Lc(l:List bF)(m:List Int)(hl:l.length<=1000000)(hm:m.length<=1000000):bh Tryz.prog 187 [.aD (l.map bF.enc),.aD (m.map (A.int .i64))] (· = .aD ((fV (aX (l++qZ m))).map bF.enc)):=by refine aF C13A_ok mixed Tryz.func187 ?_;unfold Tryz.f187;have h0:=Sk (l:=l) (by omega);simp-implicitDefEqProofs (disch:=first|omega|decide) only[go_sem,↓reduceIte,seval,h0,aa,cg,b_];refine aQ [4,10,11] (ι:={k:Nat//k<=m.length}) (fun p=>[(12,.int .i64 p.1),(5,.row 0 0 2 (l.length+p.1) false)]) (fun p=>[(0,.row 2 ((l++qZ (m.take p.1)).map bF.enc))]) (fun p=>m.length-p.1) ⟨0,by omega⟩ (ak _) ?_ ?_;{simp-implicitDefEqProofs (disch:=first|omega|decide) only[go_sem,↓reduceIte,seval];simp[qZ]};{rintro⟨k,hk⟩;simp only;(have hlen:(l++qZ (m.take k)).length=l.length+k:=by simp[qZ];omega);by_cases bf:k<m.length;{(have ax:(k:Int)<(m.length:Int):=by omega);(have e1:(m.map (A.int .i64))[k]? =some (.int .i64 m[k]):=by rw[aL,ad bf];rfl);have ht:m.take (k+1)=m.take k++[m[k]]:=(an bf).symm;(have hh:l++qZ (m.take (k+1))=(l++qZ (m.take k))++[⟨m[k],m[k]⟩]:=by rw[ht];unfold qZ;rw[bk,<-aV];rfl);have tl:((l++qZ (m.take k)).map bF.enc).take (l.length+k)=(l++qZ (m.take k)).map bF.enc:=ab (dj (by rw[aa,hlen]));simp-implicitDefEqProofs (disch:=first|omega|decide) only[go_sem,↓reduceIte,seval,ax,e1,tl,hlen,wrap_i64,aa];exact⟨⟨ae _,by omega⟩,⟨k+1,bf⟩,⟨⟨by simp,by show l.length+k+1=l.length+(k+1);omega⟩,by rw[hh,bk (l₁:=l++qZ (m.take k))];rfl⟩,by show m.length-(k+1)<m.length-k;omega⟩};{(have ax: ¬(k:Int)<(m.length:Int):=by omega);have tl:((l++qZ (m.take k)).map bF.enc).take (l.length+k)=(l++qZ (m.take k)).map bF.enc:=ab (dj (by rw[aa,hlen]));rw[ab (show m.length<=k by omega)]at*;simp-implicitDefEqProofs (disch:=first|omega|decide) only[go_sem,↓reduceIte,seval,ax,tl,hlen,aa,cg,b_];exact ae _}}
def FV:aN:=Xz.add 209 (entry (fun(l:List bF)=>[.aD (l.map bF.enc)]) (fun l=>l.length<=4398046511104) (fun l=> .bool (dD l)))
theorem C13L0_ok:aH Tryz.prog FV:=T13m_ok.en Tryz.func209 fun l h=>vw l (by omega)
@[go_sem] theorem C13L0_old{g:FuncId}{xs:List A}(h:g≠209):FV.f g xs=Xz.f g xs:=aN.aS h
theorem yp(l:List bF)(h:l.length<=4398046511104):FV.f 209 [.aD (l.map bF.enc)]=some (.bool (dD l)):=aN.en (Γ:=Xz) l h
@[go_sem] theorem l_counts_Right{l:List bF}(h:l.length<=4398046511104):FV.f 209 [.aD (l.map bF.enc)]=some (.bool (dD l)):=yp l h
def FW:aN:=FV.add 194 (entry (fun(l:List bF)=>[.aD (l.map bF.enc)]) (fun l=>l.length<=4398046511104) (fun l=> .bool (dD l)))
theorem C13L1_ok:aH Tryz.prog FW:=C13L0_ok.en Tryz.func194 fun l h=>HZ l (by omega)
@[go_sem] theorem C13L1_old{g:FuncId}{xs:List A}(h:g≠194):FW.f g xs=FV.f g xs:=aN.aS h
theorem z8(l:List bF)(h:l.length<=4398046511104):FW.f 194 [.aD (l.map bF.enc)]=some (.bool (dD l)):=aN.en (Γ:=FV) l h
@[go_sem] theorem l_ref13_Right{l:List bF}(h:l.length<=4398046511104):FW.f 194 [.aD (l.map bF.enc)]=some (.bool (dD l)):=z8 l h
def FX:aN:=FW.add 199 (entry (fun(v:List bF×Int)=>[.aD (v.1.map bF.enc),.int .i64 v.2]) (fun v=>v.1.length<=4398046511104) (fun v=> .bool (aX v.1 v.2)))
theorem C13L2_ok:aH Tryz.prog FX:=C13L1_ok.en Tryz.func199 fun v h=>KU v.1 v.2 (by omega)
@[go_sem] theorem C13L2_old{g:FuncId}{xs:List A}(h:g≠199):FX.f g xs=FW.f g xs:=aN.aS h
theorem BE(v:List bF×Int)(h:v.1.length<=4398046511104):FX.f 199 [.aD (v.1.map bF.enc),.int .i64 v.2]=some (.bool (aX v.1 v.2)):=aN.en (Γ:=FW) v h
@[go_sem] theorem l_counts_Has{a:List bF}{b:Int}(h:a.length<=4398046511104):FX.f 199 [.aD (a.map bF.enc),.int .i64 b]=some (.bool (aX a b)):=BE (a,b) h
def FY:aN:=FX.add 193 (entry (fun(v:List bF×List bF)=>[.aD (v.1.map bF.enc),.aD (v.2.map bF.enc)]) (fun v=>v.1.length<=4398046511104/\v.2.length<=4398046511104) (fun v=> .bool (lM v.1 v.2)))
theorem C13L3_ok:aH Tryz.prog FY:=C13L2_ok.en Tryz.func193 fun v h=>KV v.1 v.2 (by omega) (by omega)
@[go_sem] theorem C13L3_old{g:FuncId}{xs:List A}(h:g≠193):FY.f g xs=FX.f g xs:=aN.aS h
theorem BF(v:List bF×List bF)(h:v.1.length<=4398046511104/\v.2.length<=4398046511104):FY.f 193 [.aD (v.1.map bF.enc),.aD (v.2.map bF.enc)]=some (.bool (lM v.1 v.2)):=aN.en (Γ:=FX) v h
@[go_sem] theorem l_ref13_Same{a:List bF}{b:List bF}(h:a.length<=4398046511104/\b.length<=4398046511104):FY.f 193 [.aD (a.map bF.enc),.aD (b.map bF.enc)]=some (.bool (lM a b)):=BF (a,b) h
def JA:aN:=FY.add 220 (entry (fun(l:List bF)=>[.aD (l.map bF.enc)]) (fun l=>l.length<=4398046511104) (fun l=> .aD ((fV (aX l)).map bF.enc)))
theorem C13L4_ok:aH Tryz.prog JA:=C13L3_ok.en Tryz.func220 fun l h=>C2 l h
@[go_sem] theorem C13L4_old{g:FuncId}{xs:List A}(h:g≠220):JA.f g xs=FY.f g xs:=aN.aS h
theorem Dr(l:List bF)(h:l.length<=4398046511104):JA.f 220 [.aD (l.map bF.enc)]=some (.aD ((fV (aX l)).map bF.enc)):=aN.en (Γ:=FY) l h
@[go_sem] theorem l_counts_Of{l:List bF}(h:l.length<=4398046511104):JA.f 220 [.aD (l.map bF.enc)]=some (.aD ((fV (aX l)).map bF.enc)):=Dr l h
def OO:aN:=JA
theorem C13L5_ok:aH Tryz.prog OO:=C13L4_ok
@[go_sem] theorem C13L5_old{g:FuncId}{xs:List A}:OO.f g xs=JA.f g xs:=rfl
def JB:aN:=OO.add 187 (entry (fun(v:List bF×List Int)=>[.aD (v.1.map bF.enc),.aD (v.2.map (A.int .i64))]) (fun v=>v.1.length<=1000000/\v.2.length<=1000000) (fun v=> .aD ((fV (aX (v.1++qZ v.2))).map bF.enc)))
theorem C13L6_ok:aH Tryz.prog JB:=C13L5_ok.en Tryz.func187 fun v h=>Lc v.1 v.2 h.1 h.2
@[go_sem] theorem C13L6_old{g:FuncId}{xs:List A}(h:g≠187):JB.f g xs=OO.f g xs:=aN.aS h
theorem BG(v:List bF×List Int)(h:v.1.length<=1000000/\v.2.length<=1000000):JB.f 187 [.aD (v.1.map bF.enc),.aD (v.2.map (A.int .i64))]=some (.aD ((fV (aX (v.1++qZ v.2))).map bF.enc)):=aN.en (Γ:=OO) v h
@[go_sem] theorem Ld{a:List bF}{b:List Int}(h:a.length<=1000000/\b.length<=1000000):JB.f 187 [.aD (a.map bF.enc),.aD (b.map (A.int .i64))]=some (.aD ((fV (aX (a++qZ b))).map bF.enc)):=BG (a,b) h
def U3:aN:=JB
theorem C13L7_ok:aH Tryz.prog U3:=C13L6_ok
@[go_sem] theorem C13L7_old{g:FuncId}{xs:List A}:U3.f g xs=JB.f g xs:=rfl
def U4:aN:=U3
theorem C13L8_ok:aH Tryz.prog U4:=C13L7_ok
@[go_sem] theorem C13L8_old{g:FuncId}{xs:List A}:U4.f g xs=U3.f g xs:=rfl
def U5:aN:=U4
theorem C13L9_ok:aH Tryz.prog U5:=C13L8_ok
@[go_sem] theorem C13L9_old{g:FuncId}{xs:List A}:U5.f g xs=U4.f g xs:=rfl
def FZ:aN:=U5
theorem XA:aH Tryz.prog FZ:=C13L9_ok
@[go_sem] theorem C13L10_old{g:FuncId}{xs:List A}:FZ.f g xs=U5.f g xs:=rfl
def yq:aN:=FZ.add 216 (entry (fun(l:List bF)=>[.aD (l.map bF.enc)]) (fun l=>l.length<=4398046511104) (fun l=> .int .i64 (kz (fV (aX l)))))
theorem XB:aH Tryz.prog yq:=XA.en Tryz.func216 fun l h=>H4 l h
@[go_sem] theorem C13L11_old{g:FuncId}{xs:List A}(h:g≠216):yq.f g xs=FZ.f g xs:=aN.aS h
theorem yt(l:List bF)(h:l.length<=4398046511104):yq.f 216 [.aD (l.map bF.enc)]=some (.int .i64 (kz (fV (aX l)))):=aN.en (Γ:=FZ) l h
@[go_sem] theorem l_counts_Most{l:List bF}(h:l.length<=4398046511104):yq.f 216 [.aD (l.map bF.enc)]=some (.int .i64 (kz (fV (aX l)))):=yt l h
def BH:aN:=yq
theorem JC:aH Tryz.prog BH:=XB
@[go_sem] theorem C13L12_old{g:FuncId}{xs:List A}:BH.f g xs=yq.f g xs:=rfl
@[go_sem] theorem C13L12_s:BH.pl yq:=⟨fun _=>rfl,fun _=>rfl,rfl,fun _=>rfl,rfl,fun _=>rfl,rfl⟩
theorem XC{x:A}(h:fits (.int .i64) x): ∃n:Int,x= .int .i64 n/\True:=by simp only[fits]at h;obtain⟨n,rfl,_⟩:=h;exact⟨n,rfl,trivial⟩
theorem fits_run{x:List A}(h:iL [.int .i64,.int .i64] x): ∃f t:Int,x=[.int .i64 f,.int .i64 t]:=by simp only[iL,fits]at h;obtain⟨y,zs,rfl,⟨n,rfl,_⟩,y2,zs2,rfl,⟨m,rfl,_⟩,rfl⟩:=h;exact⟨n,m,rfl⟩
theorem XD{x:A}(h:fits (.rows [.int .i64,.int .i64]) x): ∃l:List bF,x= .aD (l.map bF.enc)/\l.length<=maxLen:=by simp only[fits]at h;obtain⟨es,rfl,hl,he⟩:=h;obtain⟨l,rfl,_⟩:=rn (f:=bF.enc) (P:=fun _=>True) (es:=es) (fun e hx=>by obtain⟨ys,rfl,hy⟩:=he e hx;obtain⟨r,c,rfl⟩:=fits_run (by simpa only[iL,fits]using hy);exact⟨⟨r,c⟩,rfl,trivial⟩);exact⟨l,rfl,by simpa using hl⟩
set_option maxHeartbeats 4000000
def T12z:aN:=Bl
theorem tR:aH Tryz.prog T12z:=KJ _
@[go_sem] theorem T12z_eq:T12z=Bl:=rfl
structure fg where
 r:Int
 c:Int
 deriving DecidableEq,Inhabited
def fg.cells(v:fg):List A:=[.int .i64 v.r,.int .i64 v.c]
def fg.enc(v:fg):A:= .agg v.cells
@[go_sem] theorem fg.vp{a b:Int}:fg.enc ⟨a,b⟩= .agg [.int .i64 a,.int .i64 b]:=rfl
theorem fg.ga(v w:fg)(h:v.enc=w.enc):v=w:=by cases v;cases w;simpa[fg.enc,fg.cells]using h
@[simp] theorem map_ver_inj{l m:List fg}:(l.map fg.enc=m.map fg.enc)=(l=m):=map_inj fg.ga
def cq(v:fg):Bool:=decide (1<=v.r)&&decide (v.r<=16)&&decide (1<=v.c)&&decide (v.c<=1099511627776)
def D0(a b:fg):Bool:=decide (a.r<b.r)||(a.r==b.r)&&decide (a.c<b.c)
def l6(a b:fg):Int:=if a=b then 0 else if D0 a b then-1 else 1
theorem uu(r c:Int):bh Tryz.prog 161 [.agg [.int .i64 r,.int .i64 c]] (· = .bool (cq ⟨r,c⟩)):=by refine aF tR mixed Tryz.func161 ?_;unfold Tryz.f161;by_cases h1:1<=r;{by_cases h2:r<=16;{by_cases h3:1<=c;{simp-implicitDefEqProofs (disch:=first|omega|decide) only[go_sem,↓reduceIte,seval,h1,h2,h3,cq]};{simp-implicitDefEqProofs (disch:=first|omega|decide) only[go_sem,↓reduceIte,seval,h1,h2,h3,cq]}};{simp-implicitDefEqProofs (disch:=first|omega|decide) only[go_sem,↓reduceIte,seval,h1,h2,cq]}};{simp-implicitDefEqProofs (disch:=first|omega|decide) only[go_sem,↓reduceIte,seval,h1,cq]}
theorem rQ(r c:Int):bh Tryz.prog 101 [.agg [.int .i64 r,.int .i64 c]] (· = .bool (cq ⟨r,c⟩)):=by refine aF tR mixed Tryz.func101 ?_;unfold Tryz.f101;by_cases h1:1<=r;{by_cases h2:r<=16;{by_cases h3:1<=c;{simp-implicitDefEqProofs (disch:=first|omega|decide) only[go_sem,↓reduceIte,seval,h1,h2,h3,cq]};{simp-implicitDefEqProofs (disch:=first|omega|decide) only[go_sem,↓reduceIte,seval,h1,h2,h3,cq]}};{simp-implicitDefEqProofs (disch:=first|omega|decide) only[go_sem,↓reduceIte,seval,h1,h2,cq]}};{simp-implicitDefEqProofs (disch:=first|omega|decide) only[go_sem,↓reduceIte,seval,h1,cq]}
theorem rR(a b:fg):bh Tryz.prog 190 [.agg [.int .i64 a.r,.int .i64 a.c],.agg [.int .i64 b.r,.int .i64 b.c]] (· = .int .i64 (l6 a b)):=by refine aF tR mixed Tryz.func190 ?_;unfold Tryz.f190;obtain⟨r,c⟩:=a;obtain⟨r',c'⟩:=b;by_cases h1:r=r';{subst h1;by_cases h2:c=c';{subst h2;(have e:l6 ⟨r,c⟩ ⟨r,c⟩=0:=by simp[l6]);(have e1:(r==r)=true:=by simp);(have e2:(c==c)=true:=by simp);simp-implicitDefEqProofs (disch:=first|omega|decide) only[go_sem,↓reduceIte,seval,e,e1,e2]};{(have h3:(c==c')=false:=by simpa using h2);(have e1:(r==r)=true:=by simp);(have h4: ¬r<r:=by omega);by_cases h5:c<c';{(have e:l6 ⟨r,c⟩ ⟨r,c'⟩= -1:=by simp[l6,D0,h2,h5]);simp-implicitDefEqProofs (disch:=first|omega|decide) only[go_sem,↓reduceIte,seval,e,e1,h3,h4,h5]};{(have e:l6 ⟨r,c⟩ ⟨r,c'⟩=1:=by simp[l6,D0,h2,h5]);simp-implicitDefEqProofs (disch:=first|omega|decide) only[go_sem,↓reduceIte,seval,e,e1,h3,h4,h5]}}};{(have h3:(r==r')=false:=by simpa using h1);by_cases h4:r<r';{(have e:l6 ⟨r,c⟩ ⟨r',c'⟩= -1:=by simp[l6,D0,h1,h4]);simp-implicitDefEqProofs (disch:=first|omega|decide) only[go_sem,↓reduceIte,seval,e,h3,h4]};{(have e:l6 ⟨r,c⟩ ⟨r',c'⟩=1:=by simp[l6,D0,h1,h4]);simp-implicitDefEqProofs (disch:=first|omega|decide) only[go_sem,↓reduceIte,seval,e,h3,h4]}}
theorem z_(a b:fg):bh Tryz.prog 134 [.agg [.int .i64 a.r,.int .i64 a.c],.agg [.int .i64 b.r,.int .i64 b.c]] (· = .bool (D0 a b)):=by refine aF tR mixed Tryz.func134 ?_;unfold Tryz.f134;obtain⟨r,c⟩:=a;obtain⟨r',c'⟩:=b;by_cases h4:r<r';{simp-implicitDefEqProofs (disch:=first|omega|decide) only[go_sem,↓reduceIte,seval,h4,D0]};{cases h3:r==r'<;>simp-implicitDefEqProofs (disch:=first|omega|decide) only[go_sem,↓reduceIte,seval,h3,h4,D0]}
def T12a:aN:=T12z.add 161 (entry (fun(v:Int×Int)=>[.agg [.int .i64 v.1,.int .i64 v.2]]) (fun v=>True) (fun v=> .bool (cq ⟨v.1,v.2⟩)))
theorem T12a_ok:aH Tryz.prog T12a:=tR.en Tryz.func161 fun v h=>uu v.1 v.2
theorem yu(v:Int×Int)(h:True):T12a.f 161 [.agg [.int .i64 v.1,.int .i64 v.2]]=some (.bool (cq ⟨v.1,v.2⟩)):=aN.en (Γ:=T12z) v h
def T12b:aN:=T12a.add 101 (entry (fun(v:Int×Int)=>[.agg [.int .i64 v.1,.int .i64 v.2]]) (fun v=>True) (fun v=> .bool (cq ⟨v.1,v.2⟩)))
theorem T12b_ok:aH Tryz.prog T12b:=T12a_ok.en Tryz.func101 fun v h=>rQ v.1 v.2
@[go_sem] theorem T12b_old{g:FuncId}{xs:List A}(h:g≠101):T12b.f g xs=T12a.f g xs:=aN.aS h
def T12c:aN:=T12b.add 190 (entry (fun(v:(Int×Int)×(Int×Int))=>[.agg [.int .i64 v.1.1,.int .i64 v.1.2],.agg [.int .i64 v.2.1,.int .i64 v.2.2]]) (fun v=>True) (fun v=> .int .i64 (l6 ⟨v.1.1,v.1.2⟩ ⟨v.2.1,v.2.2⟩)))
theorem T12c_ok:aH Tryz.prog T12c:=T12b_ok.en Tryz.func190 fun v h=>rR ⟨v.1.1,v.1.2⟩ ⟨v.2.1,v.2.2⟩
@[go_sem] theorem T12c_old{g:FuncId}{xs:List A}(h:g≠190):T12c.f g xs=T12b.f g xs:=aN.aS h
def T12d:aN:=T12c.add 134 (entry (fun(v:(Int×Int)×(Int×Int))=>[.agg [.int .i64 v.1.1,.int .i64 v.1.2],.agg [.int .i64 v.2.1,.int .i64 v.2.2]]) (fun v=>True) (fun v=> .bool (D0 ⟨v.1.1,v.1.2⟩ ⟨v.2.1,v.2.2⟩)))
theorem T12d_ok:aH Tryz.prog T12d:=T12c_ok.en Tryz.func134 fun v h=>z_ ⟨v.1.1,v.1.2⟩ ⟨v.2.1,v.2.2⟩
@[go_sem] theorem T12d_old{g:FuncId}{xs:List A}(h:g≠134):T12d.f g xs=T12c.f g xs:=aN.aS h
@[go_sem] theorem t_version_Right{r c:Int}:T12a.f 161 [.agg [.int .i64 r,.int .i64 c]]=some (.bool (cq ⟨r,c⟩)):=yu (r,c) trivial
def T12e:aN:=T12d
theorem T12e_ok:aH Tryz.prog T12e:=T12d_ok
@[go_sem] theorem T12e_old{g:FuncId}{xs:List A}:T12e.f g xs=T12d.f g xs:=rfl
end Go.Proofs.YtfnohjheonlnmaaGreat
