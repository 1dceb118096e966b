/- A row of one's own that a piece of code only reads: lent, and had back behind it. Generic in the program; no condition of its own. -/
import Derived.Test.YtdknmcaemebgfaaGreatDoorMO18
namespace Go.Kx
open Go.RowKit
theorem St.lend {w0 : World} {M : Nat → Prop} (hgd : Gd w0 M) {H0 : Hp} {ρ : List Value} {H : Hp} {G : List SB} {w : World} (h : St w0 M H0 ρ H G w) {k : Nat} {t : TypeId} {sz n : Nat} {xs : List Value} (hk : G[k]? = some (.row t sz n xs)) (hz : n = 0 → xs = []) :
  ∃ x H1 M1, St w M1 H1 ρ H1 (G.set k .dead) w ∧ H.Le H1 ∧ Frozen H1 x n xs ∧ ρ[k]? = some x ∧ Gd w M1 ∧
   ∀ ρ' H' G' w1, St w M1 H1 ρ' H' G' w1 → St w0 M H0 (ρ' ++ [x]) H (G' ++ [.row t sz n xs]) w1 := by
 obtain ⟨x, H1, a1, a2, a3, a4⟩ := h.frz hk hz
 have a5 := a1.kill k
 rw [List.set_set] at a5
 refine ⟨x, H1, fun g => ∃ j, blkAt ρ (G.set k .dead) j = some g, ⟨rfl, rfl, rfl, Nat.le_refl _, fun _ _ _ => rfl, .refl _, a5.hin, fun _ _ _ e => .inl e, a5.len, a5.ok, fun j g hg => ⟨.inr ⟨j, hg⟩, (a5.own j g hg).2⟩, a5.inj⟩, a2, a3, a4, a5.gd hgd fun b hb => hb, ?_⟩
 intro ρ' H' G' w1 h1
 have a2 := a2.trans h1.hle
 have hok : (SB.row t sz n xs).Ok ρ w x := h.ok k _ _ hk a4
 have hbk : blkAt ρ G k = (SB.row t sz n xs).blk x := blkAt_eq hk a4
 have hM : ∀ g, (∃ j, blkAt ρ (G.set k .dead) j = some g) → w0.heap.size ≤ g ∨ M g := fun g ⟨j, hj⟩ => (a5.own j g hj).1
 have hself : ∀ g, (SB.row t sz n xs).blk x = some g → g < w.heap.size ∧ ¬ ∃ j, blkAt ρ (G.set k .dead) j = some g := fun g hg =>
  ⟨hok.lt hg, fun ⟨j, hj⟩ => (blkAt_dead hj).1 (h.inj j k g (blkAt_dead hj).2 (hbk.trans hg))⟩
 have hbase : St w0 M H0 ρ' H G' w1 := by
  refine ⟨h1.os.trans h.os, h1.tape.trans h.tape, h1.output.trans h.output, Nat.le_trans h.size h1.size, fun b hb hnm => ?_, h.hle, fun b o v e => h1.hin b o v (a2 b o v e), h.hnew, h1.len, h1.ok, fun j g hg => ⟨?_, fun o => ?_⟩, h1.inj⟩
  ·have hs := h.size
   have hnM : ¬ ∃ j, blkAt ρ (G.set k .dead) j = some b := fun hm => by
    rcases hM b hm with h2 | h2
    ·omega
    ·exact hnm h2
   exact (h1.old b (by omega) hnM).trans (h.old b hb hnm)
  ·rcases (h1.own j g hg).1 with h2 | h2
   ·have hs := h.size
    exact .inl (by omega)
   ·exact hM g h2
  ·have h2 := (h1.own j g hg).2 o
   cases h3 : H g o with
   | none => rfl
   | some v => rw [a2 g o v h3] at h2; cases h2
 refine hbase.adopt (s := .row t sz n xs) (r := x) (hok.move (w' := w1) fun g hg => h1.old g (hself g hg).1 (hself g hg).2) fun g hg => ?_
 have h2 := h.own k g (hbk.trans hg)
 refine ⟨h2.1, h2.2, fun j hj => ?_⟩
 rcases (h1.own j g hj).1 with h3 | h3
 ·have := (hself g hg).1; omega
 ·exact (hself g hg).2 h3
section
variable {P : Program} {n e : Nat} {D : Pin}
def backF (x : Value) (j : Nat) (F' F2 : Fr) : Prop := ∀ p ∈ F2, p ∈ F' ∨ (p.2 = .si (.ce (.self j)) ∧ (p.1, .si (.ce (.val x))) ∈ F')
noncomputable def tailC (c : Code) (d : Nat) : Code :=
 @Code.rec (fun _ => Nat → Code) (fun _ => .skip) (fun id ops draw _ => .region id ops draw)
  (fun x y _ ihy d => @Nat.rec (fun _ => Code) (.seq x y) (fun d' _ => ihy d') d)
  (fun c x y _ _ _ => .cond c x y) (fun id c _ _ => .block id c) (fun c _ _ => .loop c) (fun f p a b _ _ _ => .rangeFunc f p a b)
  (fun id _ => .exit id) (fun c _ _ => .scope c) (fun l _ => .label l) (fun l _ => .goto l) (fun _ => .ret) (fun m _ => .refuse m) c d
def codeXS (P : Program) (T : Tab) (n e : Nat) (D : Pin) (c : Code) (d : Nat) (Q : Fr → Hp → List SB → Prop) (K : KT) (F : Fr) (H : Hp) (G : List SB) : Prop :=
 @Code.rec (fun _ => Nat → Fr → Hp → List SB → Prop) (fun _ => Q) (fun _ _ _ _ => Q)
  (fun x _ _ ihy d F H G => @Nat.rec (fun _ => Prop) (Q F H G) (fun d' _ => codeX P T n e D x (thenK (ihy d') K) F H G) d)
  (fun _ _ _ _ _ _ => Q) (fun _ _ _ _ => Q) (fun _ _ _ => Q) (fun _ _ _ _ _ _ _ => Q)
  (fun _ _ => Q) (fun _ _ _ => Q) (fun _ _ => Q) (fun _ _ => Q) (fun _ => Q) (fun _ _ => Q) c d F H G
def isSeq : Code → Bool
 | .seq _ _ => true
 | _ => false
theorem isSeq_of {c : Code} (h : isSeq c = true) : ∃ x y, c = .seq x y := by
 cases c <;> first | exact ⟨_, _, rfl⟩ | cases h
theorem tailC_no {c : Code} {d : Nat} (h : isSeq c = false) : tailC c d = c := by
 cases c <;> first | rfl | cases h
theorem codeXS_no {T : Tab} {c : Code} {d : Nat} {Q : Fr → Hp → List SB → Prop} {K : KT} {F : Fr} {H : Hp} {G : List SB} (hc : isSeq c = false) (h : codeXS P T n e D c d Q K F H G) : Q F H G := by
 cases c <;> first | exact h | cases hc
theorem W.ofL {T : Tab} (hT : TabOk P T) {K : KT} {H0 : Hp} : ∀ (d : Nat) (c : Code) {Q : Fr → Hp → List SB → Prop} {F : Fr} {H : Hp} {G : List SB}, H0.Le H → codeXS P T n e D c d Q K F H G → (∀ F' H' G', H0.Le H' → Q F' H' G' → W P n e D (tailC c d) K F' H' G') → W P n e D c K F H G := by
 intro d
 induction d with
 | zero =>
  intro c Q F H G hle h h2
  cases hc : isSeq c with
  | true => obtain ⟨x, y, rfl⟩ := isSeq_of hc; exact h2 _ _ _ hle h
  | false => have := h2 _ _ _ hle (codeXS_no hc h); rwa [tailC_no hc] at this
 | succ d ih =>
  intro c Q F H G hle h h2
  cases hc : isSeq c with
  | true =>
   obtain ⟨x, y, rfl⟩ := isSeq_of hc
   have h' : codeX P T n e D x (thenK (codeXS P T n e D y d Q K) K) F H G := h
   refine W.seq (W.mono (codeX_ok hT x h') fun xx F' H' G' hle2 he => ?_)
   cases xx with
   | normal => exact ih y (hle.trans hle2) he h2
   | _ => exact he
  | false => have := h2 _ _ _ hle (codeXS_no hc h); rwa [tailC_no hc] at this
theorem codeL.cutTo {T : Tab} (hT : TabOk P T) (d : Nat) {c : Code} {K : KT} {F : Fr} {H : Hp} {G : List SB} (I : Fr → Hp → List SB → Prop) (h : codeXS P T n e D c d (Meets e I) K F H G)
  (h2 : ∀ F' H' G', H.Le H' → I F' H' G' → codeL P n e D (tailC c d) K F' H' G') : codeL P n e D c K F H G :=
 ⟨W.ofL (H0 := H) hT d c (.refl _) h fun F' H' G' hle he => by
  obtain ⟨F2, G2, σ, h1, h3, h4, h5⟩ := he
  exact W.sub σ (h2 F2 H' G2 hle h1).to h3 h4 h5⟩
theorem codeL.lend {T : Tab} (hT : TabOk P T) (d : Nat) {c : Code} {K : KT} {F : Fr} {H : Hp} {G : List SB} (k : Nat) {t : TypeId} {sz m : Nat} {xs : List Value} (hk : G[k]? = some (.row t sz m xs)) (hz : m = 0 → xs = [])
  (h : ∀ x0 H1, H.Le H1 → Frozen H1 x0 m xs → codeXS P T n e D c d (fun F' _ G' => ∃ F2, backF x0 G'.length F' F2 ∧ codeL P n e D (tailC c d) K F2 H (G' ++ [.row t sz m xs])) (fun _ _ _ _ => False) (frameAt k x0 F) H1 ((G.set k .dead).map (SB.at k x0))) :
  codeL P n e D c K F H G := by
 refine ⟨fun w0 M hgd H0 ρ a w hs hf hd hn => ?_⟩
 obtain ⟨x0, H1, M1, b1, b2, b3, b4, b5, b6⟩ := hs.lend hgd hk hz
 have hf' : FOk ρ (frameAt k x0 F) a.tmps := by
  intro i sv hi
  obtain ⟨⟨j, s⟩, hm, he⟩ := List.mem_map.1 hi
  injection he with e1 e2; subst e1 e2
  obtain ⟨v, h1, h2⟩ := hf j s hm
  exact ⟨v, h1, h2.at b4⟩
 have fin : ∀ (z : Code) (ρ' : List Value) (F' : Fr) (H' : Hp) (G' : List SB) (a : Act) (w1 : World), PreE e ρ ρ' → St w M1 H1 ρ' H' G' w1 → FOk ρ' F' a.tmps → D.On a → a.tmps.size = n →
   (∃ F2, backF x0 G'.length F' F2 ∧ codeL P n e D z K F2 H (G' ++ [.row t sz m xs])) → z.wp P (PostX n e D w0 M H0 ρ H K) a w1 := by
  rintro z ρ' F' H' G' a w1 hp hs2 hf2 hd2 hn2 ⟨F2, c6, c7⟩
  refine wp_mono (c7.to w0 M hgd H0 (ρ' ++ [x0]) a w1 (b6 ρ' H' G' w1 hs2) ?_ hd2 hn2) (PostX.le (hp.trans (Pre.append _ _).toE) (.refl _))
  rintro i sv hi
  rcases c6 _ hi with hi | ⟨hsv, hi⟩
  ·exact (hf2.mono (Pre.append _ _)) i sv hi
  ·obtain ⟨v, d1, d2⟩ := hf2 i _ hi
   obtain rfl : v = x0 := d2
   obtain rfl : sv = _ := hsv
   refine ⟨v, d1, ?_⟩
   show (ρ' ++ [v])[G'.length]? = some v
   rw [← hs2.len]; simp
 have go : ∀ (d : Nat) (c : Code) (ρ' : List Value) (F' : Fr) (H' : Hp) (G' : List SB) (a : Act) (w1 : World), PreE e ρ ρ' → St w M1 H1 ρ' H' G' w1 → FOk ρ' F' a.tmps → D.On a → a.tmps.size = n →
   codeXS P T n e D c d (fun F' _ G' => ∃ F2, backF x0 G'.length F' F2 ∧ codeL P n e D (tailC c d) K F2 H (G' ++ [.row t sz m xs])) (fun _ _ _ _ => False) F' H' G' → c.wp P (PostX n e D w0 M H0 ρ H K) a w1 := by
  intro d
  induction d with
  | zero =>
   intro c ρ' F' H' G' a w1 hp hs2 hf2 hd2 hn2 hw
   cases hc : isSeq c with
   | true => obtain ⟨x, y, rfl⟩ := isSeq_of hc; exact fin _ ρ' F' H' G' a w1 hp hs2 hf2 hd2 hn2 hw
   | false => have h2 := codeXS_no hc hw; rw [tailC_no hc] at h2; exact fin c ρ' F' H' G' a w1 hp hs2 hf2 hd2 hn2 h2
  | succ d ih =>
   intro c ρ' F' H' G' a w1 hp hs2 hf2 hd2 hn2 hw
   cases hc : isSeq c with
   | true =>
    obtain ⟨x, y, rfl⟩ := isSeq_of hc
    have hw' : codeX P T n e D x (thenK (codeXS P T n e D y d (fun F' _ G' => ∃ F2, backF x0 G'.length F' F2 ∧ codeL P n e D (tailC y d) K F2 H (G' ++ [.row t sz m xs])) (fun _ _ _ _ => False)) (fun _ _ _ _ => False)) F' H' G' := hw
    refine wp_seq (wp_mono (codeX_ok hT x hw' w M1 b5 H1 ρ' a w1 hs2 hf2 hd2 hn2) fun xx a1 w1 he => ?_)
    cases xx with
    | normal =>
     obtain ⟨h1, h0, F3, ρ3, H3, G3, h2, hq, h3, h4, h5⟩ := he
     exact ih y ρ3 F3 H3 G3 a1 w1 (hp.trans hq) h2 h3 h1 h0 h5
    | outgrown => exact he.elim
    | panic ch => obtain ⟨_, _, _, _, _, _, _, h7⟩ := he; exact h7.elim
    | _ => obtain ⟨_, _, _, _, _, _, _, _, _, _, h7⟩ := he; exact h7.elim
   | false => have h2 := codeXS_no hc hw; rw [tailC_no hc] at h2; exact fin c ρ' F' H' G' a w1 hp hs2 hf2 hd2 hn2 h2
 exact go d c ρ (frameAt k x0 F) H1 _ a w (.refl _ _) (b1.atAll b4) hf' hd hn (h x0 H1 b2 b3)
theorem codeL.nilCell {c : Code} {K : KT} {F : Fr} {H : Hp} {G : List SB} (k i : Nat) {t : TypeId} {cs : List SC} (et sz : Nat) (hk : G[k]? = some (.box t cs)) (hi : cs[i]? = some (.val (.slice none 0 0)))
  (h : codeL P n e D c K F H (G.set k (.box t (cs.set i (.self G.length))) ++ [.row et sz 0 []])) : codeL P n e D c K F H G :=
 ⟨fun w0 M hgd H0 _ a w hs hf hd hn => wp_mono (h.to w0 M hgd H0 _ a w (hs.nilCell et sz hk hi) (hf.mono (Pre.append _ _)) hd hn) (PostX.le (Pre.append _ _).toE (.refl _))⟩
theorem codeL.seqBlock {id : Nat} {c y : Code} {K : KT} {F : Fr} {H : Hp} {G : List SB} (h : codeL P n e D c (blockK id (thenK (codeL P n e D y K) K)) F H G) : codeL P n e D (.seq (.block id c) y) K F H G :=
 ⟨W.seq (W.block (W.mono h.to fun xx F' H' G' _ he => by
  cases xx with
  | normal => exact he.to
  | exit j =>
   simp only [blockK] at he ⊢
   split
   ·rename_i hj; rw [hj] at he; exact he.to
   ·rename_i hj; rw [hj] at he; exact he
  | _ => exact he))⟩
theorem QO.min3 {o : Oper} {x y z : Operand} {ts : Array TypeId} (ho : o.op = .call ⟨.builtin .min, #[x, y, z], ts⟩) {F : Fr} {H : Hp} {G : List SB} {K : SV → Prop} (k : IntKind) (a b c : Int)
  (hx : evX x F fun sv => sv = pv (.int k a)) (hy : evX y F fun sv => sv = pv (.int k b)) (hz : evX z F fun sv => sv = pv (.int k c)) (h : K (pv (.int k (minB (minB a b) c)))) : QO P o F H G K := by
 obtain ⟨sx, rfl, hx⟩ := evX_ok hx
 obtain ⟨sy, rfl, hy⟩ := evX_ok hy
 obtain ⟨sz, rfl, hz⟩ := evX_ok hz
 refine ⟨_, h, fun ρ act wc hf hw => ⟨_, rfl, fun w hw' => ?_⟩⟩
 have e1 : act.eval x = .int k a := hx ρ act hf
 have e2 : act.eval y = .int k b := hy ρ act hf
 have e3 : act.eval z = .int k c := hz ρ act hf
 simp [execOp, ho, resolve, invoke, builtin, Builtin.min_, Builtin.min2, minB, e1, e2, e3]
 congr
end
end Go.Kx
namespace Go.Kx.Se
open Go.Proofs Go.Kx Go.RowKit Go.Kx.Js Go.Kx.Pr Go.Kx.Rt Go.Kx.Ob Go.Kx.Wo Go.Kx.Cl Go.Kx.Pa Go.Kx.Su
set_option maxRecDepth 20000
set_option linter.unusedSimpArgs false
theorem obj2 (ms : List (ByteArray × J)) (hml : ms.length ≤ 1000000) (A : Option Addr) (c : Nat) (zs : List Value) (H : Hp) (hm : MsAt H ms zs) (hv : RdV H A zs) (h0 : 0 < ms.length) :
  CallO Tryz.prog 18 [pv (.slice A ms.length c)] H [] fun e H' G' => (∃ B d, e = .ret (agJ 6 false ⟨#[]⟩ none 0 0 B ms.length d) ∧ JAt H' (objJ ms) [.int .i64 6, .bool false, .string ⟨#[]⟩, .slice none 0 0, .slice B ms.length d] ∧ ms.length ≤ d) ∧ G' = [] := by
 have hcl : CallO Tryz.prog 48 [pv (.slice A ms.length c)] H [] fun e H' G' => (∃ B d, e = .ret (pv (.slice B ms.length d)) ∧ RdV H' B zs ∧ ms.length ≤ d) ∧ G' = [] := by
  refine CallO.sub (CallO.frz (K := fun e H' G' => (∃ B d, e = .ret (pv (.slice B ms.length d)) ∧ RdV H' B zs ∧ ms.length ≤ d) ∧ G' = [.dead]) (clone0 A ms.length c zs hm.length (ones_Ms hm) h0 hml H hv) ?_) ?_
  ·rintro e H' G' hle ⟨rfl, rfl⟩
   refine ⟨0, 52, 6, _, _, rfl, fun hz => absurd hz (by omega), fun x H2 hle2 hfr => ?_⟩
   rcases hfr with ⟨rfl, h1, h2⟩ | ⟨g, o, cap, rfl, h3, h2⟩
   ·omega
   ·exact ⟨⟨_, cap, rfl, ⟨fun e => (nomatch e), fun a e => by injection e with e; subst e; exact h2⟩, h3⟩, rfl⟩
  ·rintro e H' G' hle ⟨⟨B, d, rfl, hv, h3⟩, rfl⟩
   exact ⟨_, [], [], rfl, trivial, rfl, ⟨B, d, rfl, hv, h3⟩, rfl⟩
 refine CallO.of_body Ob.tab Tryz.func18 rfl (nt := Tryz.f18.ntmps) rfl (by kernel_rfl) ?_
 (conv => whnf)
 refine ⟨⟨_, Tryz.func48, rfl, by kernel_rfl⟩, CallS.use hcl [] rfl rfl trivial ?_⟩
 rintro e H1 G' hle1 ⟨⟨B, d, rfl, hv1, h3⟩, rfl⟩
 (conv => whnf)
 exact ⟨⟨B, d, rfl, .mk rfl .nil (Ob.RdV.nil _) rfl (hm.mono hle1) hv1, h3⟩, rfl⟩
theorem value2 (a b c : ByteArray) (n : Int) (t f i o : ByteArray) (k : Int) (r : ByteArray) (hk : -9223372036854775808 ≤ k ∧ k ≤ 9223372036854775807) (hr : clRight ⟨a, b, c, n, t, ⟨f, i, o⟩, k, r⟩ = true) (H : Hp) :
  CallO Tryz.prog 10 [.si (.ag (cs10 a b c n t f i o k r))] H [] fun e H' G' => (∃ B d, e = .ret (.tu [.ag [.val (.int .i64 6), .val (.bool false), .val (.string ⟨#[]⟩), .val (.slice none 0 0), .val (.slice B 7 d)], .ce (.val (.int .i64 0))]) ∧ JAt H' (clJ ⟨a, b, c, n, t, ⟨f, i, o⟩, k, r⟩) [.int .i64 6, .bool false, .string ⟨#[]⟩, .slice none 0 0, .slice B 7 d] ∧ 7 ≤ d) ∧ H.Le H' ∧ G' = [] := by
 have hri := right_iff ⟨a, b, c, n, t, ⟨f, i, o⟩, k, r⟩
 refine CallO.of_body tab Tryz.func10 rfl (nt := Tryz.f10.ntmps) rfl (by kernel_rfl) ?_
 (conv => whnf)
 refine ⟨⟨_, Tryz.func11, rfl, by kernel_rfl⟩, CallS.use (right0 a b c n t f i o k r hk H) [] rfl rfl trivial ?_⟩
 rintro e H1 G' hle1 ⟨rfl, hle1', rfl⟩
 rw [hr]
 (conv => whnf)
 have hR := hri.1 hr
 have hn0 := hR.iat.1
 have hn1 := hR.iat.2
 have hk0 := hR.kind
 have hsub := hR.sub
 dsimp only at hn0 hn1 hk0 hsub
 have hsv : subValP ⟨f, i, o⟩ = (subJ ⟨f, i, o⟩, 0) := by unfold subValP; rw [hsub]; rfl
 refine ⟨⟨_, Tryz.func29, rfl, by kernel_rfl⟩, CallS.use (Su.value0 f i o H1) [] rfl rfl trivial ?_⟩
 rw [hsv]
 rintro e H2 G' hle2 ⟨⟨k2, y2, t2, A2, n2, c2, B2, m2, d2, rfl, hj2⟩, hle2', rfl⟩
 (conv => whnf)
 refine WS.draw tab mixed (.take 0 (.take 1 (.take 4 (.take 5 (.take 8 (.take 9 (.take 12 (.take 13 (.take 16 (.take 17 (.take 20 (.take 22 (.alt 2 (.alt 3 (.alt 6 (.alt 7 (.alt 10 (.alt 11 (.alt 14 (.alt 15 (.alt 18 (.alt 19 (.alt 21 (.alt 23 (.alt 24 (.alt 25 (.alt 26 (.alt 27 (.take 28 .done) .no) .no) .no) .no) .no) .no) .no) .no) .no) .no) .no) .no) .no) .no) .no) .no))))))))))))) (by kernel_rfl) [1] ?_
 (conv => whnf)
 repeat' (first
  | exact trivial
  | exact rfl
  | exact ⟨rfl, rfl, rfl, trivial⟩
  | exact ⟨_, Tryz.func31, rfl, by kernel_rfl⟩
  | exact ⟨_, Tryz.func19, rfl, by kernel_rfl⟩
  | exact ⟨_, Tryz.func18, rfl, by kernel_rfl⟩
  | exact ⟨_, Tryz.func30, rfl, by kernel_rfl⟩
  | exact ⟨_, Tryz.func32, rfl, by kernel_rfl⟩
  | (refine CallS.use (Ob.str_ _ _) [] rfl rfl trivial ?_; rintro e H6 G' hle7 ⟨rfl, rfl, rfl⟩; (conv => whnf))
  | (refine CallS.use (num_ n (by omega) (by omega) _) [] rfl rfl trivial ?_; rintro e H6 G' hle7 ⟨rfl, rfl, rfl⟩; (conv => whnf))
  | (refine CallS.use (member_ _ _ _ _ _ _ _ _ _ _ _) [] rfl rfl trivial ?_; rintro e H6 G' hle7 ⟨rfl, rfl, rfl⟩; (conv => whnf))
  | (refine CallS.use (events0 a b c n t f i o k r hk0 _) [] rfl rfl trivial ?_; rintro e H6 G' hle7 ⟨⟨k6, y6, t6, A6, n6, c6, B6, m6, d6, rfl, hj6⟩, hle6, rfl⟩; (conv => whnf))
  | exact Nat.le_of_ble_eq_true rfl
  | (refine .inl ?_; intro g H7 hle8 hrd; (conv => whnf))
  | (refine And.intro ?_ ?_ <;> (conv => whnf)))
 have hms : MsAt H7 (clMs ⟨a, b, c, n, t, ⟨f, i, o⟩, k, r⟩) _ := .cons (.bare 4 false a) (.cons (.bare 4 false b) (.cons (.bare 3 false (Lb.itoaB n)) (.cons (.bare 4 false c) (.cons (.bare 4 false t) (.cons (hj2.mono (hle6.trans hle8)) (.cons (hj6.mono hle8) .nil))))))
 have hfin := ((hle1.trans hle2).trans hle6).trans hle8
 refine CallS.use (obj2 (clMs ⟨a, b, c, n, t, ⟨f, i, o⟩, k, r⟩) (Nat.le_of_ble_eq_true rfl) (some ⟨g, 0, none⟩) 7 _ H7 hms ⟨fun e => (nomatch e), fun a e => by injection e with e; subst e; exact hrd⟩ (Nat.zero_lt_succ _)) [] rfl rfl trivial ?_
 rintro e H8 G' hle9 ⟨⟨B8, d8, rfl, hj8, h78⟩, rfl⟩
 (conv => whnf)
 repeat' (first
  | exact trivial
  | exact rfl
  | exact ⟨rfl, trivial, rfl, trivial⟩
  | exact ⟨⟨_, _, rfl, hj8, h78⟩, hfin.trans hle9, rfl⟩
  | (refine And.intro ?_ ?_ <;> (conv => whnf)))
end Go.Kx.Se
namespace Go.Kx.L13
open Go.Proofs Go.Kx Go.RowKit Go.Kx.Js Go.Kx.Pr Go.Kx.Rt Go.Kx.Ob Go.Kx.Wo Go.Kx.Cl Go.Kx.Su Go.Kx.Se Go.Kx.Jw
set_option maxRecDepth 20000
set_option linter.unusedSimpArgs false
namespace So
def T : Tab := [(9, { k := TK.string, agg := false, size := 1, bytes := 16, zero := [Z.s] }), (3, { k := TK.int IntKind.i64, agg := false, size := 1, bytes := 8, zero := [Z.i IntKind.i64] }), (25, { k := TK.st [(0, 9, 1), (1, 9, 1), (2, 9, 1), (3, 3, 1), (4, 9, 1), (5, 23, 3), (8, 3, 1), (9, 9, 1)], agg := true, size := 10, bytes := 144, zero := [Z.s, Z.s, Z.s, Z.i IntKind.i64, Z.s, Z.s, Z.s, Z.s, Z.i IntKind.i64, Z.s] }), (28, { k := TK.st [(0, 9, 1), (1, 9, 1), (2, 9, 1), (3, 3, 1), (4, 9, 1), (5, 9, 1), (6, 9, 1), (7, 9, 1), (8, 3, 1), (9, 9, 1)], agg := true, size := 10, bytes := 144, zero := [Z.s, Z.s, Z.s, Z.i IntKind.i64, Z.s, Z.s, Z.s, Z.s, Z.i IntKind.i64, Z.s] }), (23, { k := TK.st [(0, 9, 1), (1, 9, 1), (2, 9, 1)], agg := true, size := 3, bytes := 48, zero := [Z.s, Z.s, Z.s] }), (34, { k := TK.st [(0, 3, 1), (1, 4, 1), (2, 9, 1), (3, 31, 1), (4, 32, 1)], agg := true, size := 5, bytes := 80, zero := [Z.i IntKind.i64, Z.b, Z.s, Z.sl, Z.sl] }), (52, { k := TK.st [(0, 9, 1), (1, 34, 5)], agg := true, size := 6, bytes := 96, zero := [Z.s, Z.i IntKind.i64, Z.b, Z.s, Z.sl, Z.sl] }), (4, { k := TK.bool, agg := false, size := 1, bytes := 1, zero := [Z.b] }), (35, { k := TK.int IntKind.i64, agg := false, size := 1, bytes := 8, zero := [Z.i IntKind.i64] }), (32, { k := TK.slice 52, agg := false, size := 1, bytes := 24, zero := [Z.sl] }), (55, { k := TK.slice 5, agg := false, size := 1, bytes := 24, zero := [Z.sl] }), (62, { k := TK.slice 9, agg := false, size := 1, bytes := 24, zero := [Z.sl] }), (31, { k := TK.slice 34, agg := false, size := 1, bytes := 24, zero := [Z.sl] }), (5, { k := TK.int IntKind.u8, agg := false, size := 1, bytes := 1, zero := [Z.i IntKind.u8] })]
set_option maxRecDepth 100000 in
theorem tab : TabOk Tryz.prog T := tabOk_mk (ts := [9, 3, 25, 28, 23, 34, 52, 4, 35, 32, 55, 62, 31, 5]) (by kernel_rfl)
end So
theorem sub_get {zs : List Value} {o : Nat} {ys : List Value} (h : (zs.drop o).take 6 = ys) (j : Nat) (x : Value) (hx : ys[j]? = some x) : zs[o + j]? = some x := by
 subst h
 rw [List.getElem?_take] at hx
 split at hx
 ·rw [List.getElem?_drop] at hx; exact hx
 ·cases hx
theorem mem_cells {H : Hp} {ms : List (ByteArray × J)} {zs : List Value} (h : MsAt H ms zs) {i : Nat} (hi : i < ms.length) : ∃ s j k y t A n c B m e, ms[i]? = some (s, j) ∧ JAt H j [.int .i64 k, .bool y, .string t, .slice A n c, .slice B m e] ∧ (zs.drop (i * 6)).take 6 = [.string s, .int .i64 k, .bool y, .string t, .slice A n c, .slice B m e] := by
 obtain ⟨⟨s, j⟩, hs⟩ : ∃ x, ms[i]? = some x := ⟨_, List.getElem?_eq_getElem hi⟩
 obtain ⟨cs, hj, hz⟩ := h.get hs
 obtain ⟨A, n, c, B, m, e, rfl⟩ := hj.cells
 exact ⟨s, j, _, _, _, _, _, _, _, _, _, hs, hj, hz⟩
theorem objR6 (ms : List (ByteArray × J)) (l : Nat) (hl : ms.length = l) (hml : ms.length ≤ 1000000) (n : Nat) (hn : n = ms.length) (zs : List Value) (H : Hp) (hm : MsAt H ms zs) (h0 : 0 < ms.length) :
  CallO Tryz.prog 18 [.si (.ce (.self 0))] H [.row 52 6 n zs] fun e H' G' => (∃ B d, e = .ret (agJ 6 false ⟨#[]⟩ none 0 0 B l d) ∧ JAt H' (objJ ms) [.int .i64 6, .bool false, .string ⟨#[]⟩, .slice none 0 0, .slice B l d]) ∧ G' = [.dead] := by
 subst hl
 exact objR ms hml n hn zs H hm h0
def stA (c : Clm) (a b d : Int) (F : Fr) (H : Hp) (G : List SB) : Prop := ∃ (a' b' d' : Nat) (B : Option Addr) (e : Nat) (zt : List Value), a = a' ∧ b = b' ∧ d = d' ∧ a' ≤ 6 ∧ b' ≤ 6 ∧ d' ≤ 6 ∧ RightC c ∧ FitC c ∧ 7 ≤ e ∧ ErrH H ∧
 MsAt H (turn (clMs c) a' b') zt ∧ JAt H (clJ c) [.int .i64 6, .bool false, .string ⟨#[]⟩, .slice none 0 0, .slice B 7 e] ∧
 F = [(1, pv (.int .i64 a')), (2, pv (.int .i64 b')), (3, pv (.int .i64 d')), (4, .si (.ce (.ptr 0 0))), (11, .si (.ce (.ptr 1 0))), (13, .si (.ce (.ptr 3 0)))] ∧
 G = [.box 25 (csC c), .box 34 [.val (.int .i64 6), .val (.bool false), .val (.string ⟨#[]⟩), .val (.slice none 0 0), .val (.slice B 7 e)], .row 52 6 7 zt, .box 34 [.val (.int .i64 6), .val (.bool false), .val (.string ⟨#[]⟩), .val (.slice none 0 0), .self 2]]
def stB (c : Clm) (a b : Int) (F : Fr) (H : Hp) (G : List SB) : Prop := ∃ (a' b' d' : Nat) (B At Bl : Option Addr) (e ct dl : Nat), a = a' ∧ b = b' ∧ a' ≤ 6 ∧ b' ≤ 6 ∧ d' ≤ 6 ∧ RightC c ∧ FitC c ∧ 7 ≤ e ∧ ErrH H ∧
 JAt H (clJ c) [.int .i64 6, .bool false, .string ⟨#[]⟩, .slice none 0 0, .slice B 7 e] ∧
 JAt H (objJ (turn (clMs c) a' b')) [.int .i64 6, .bool false, .string ⟨#[]⟩, .slice none 0 0, .slice At 7 ct] ∧
 JAt H (objJ ((clMs c).take d' ++ (clMs c).drop (d' + 1))) [.int .i64 6, .bool false, .string ⟨#[]⟩, .slice none 0 0, .slice Bl 6 dl] ∧
 F = [(1, pv (.int .i64 a')), (2, pv (.int .i64 b')), (4, .si (.ce (.ptr 0 0))), (11, .si (.ce (.ptr 1 0))), (13, .si (.ce (.ptr 2 0))), (14, .si (.ce (.ptr 3 0)))] ∧
 G = [.box 25 (csC c), .box 34 [.val (.int .i64 6), .val (.bool false), .val (.string ⟨#[]⟩), .val (.slice none 0 0), .val (.slice B 7 e)], .box 34 [.val (.int .i64 6), .val (.bool false), .val (.string ⟨#[]⟩), .val (.slice none 0 0), .val (.slice At 7 ct)], .box 34 [.val (.int .i64 6), .val (.bool false), .val (.string ⟨#[]⟩), .val (.slice none 0 0), .val (.slice Bl 6 dl)]]
noncomputable def soC : Code := Tryz.f5.body.getD .skip
set_option maxHeartbeats 1000000 in
theorem ordB (c : Clm) (a b d : Int) {K : KT} {F : Fr} {H1 : Hp} {G : List SB} (h1 : stA c a b d F H1 G)
  (h2 : ∀ F' H' G', H1.Le H' → stB c a b F' H' G' → codeL Tryz.prog Tryz.f5.ntmps 0 .none (tailC soC 9) K F' H' G') : codeL Tryz.prog Tryz.f5.ntmps 0 .none (tailC soC 8) K F H1 G := by
 obtain ⟨a, b, d, B, e, zt, rfl, rfl, rfl, ha, hb, hd, hR, hfc, he, hE1, hturn, hj, rfl, rfl⟩ := h1
 have h2 : ∀ F' H' G', H1.Le H' → stB c a b F' H' G' → codeL Tryz.prog Tryz.f5.ntmps 0 .none (tailC (tailC soC 8) 1) K F' H' G' := h2
 replace h2 : ∀ H7, H1.Le H7 → ∀ F' H' G', H7.Le H' → stB c a b F' H' G' → codeL Tryz.prog Tryz.f5.ntmps 0 .none (tailC (tailC soC 8) 1) K F' H' G' := fun H7 hle F' H' G' hle' => h2 F' H' G' (hle.trans hle')
 refine codeL.frz 2 (t := 52) (sz := 6) (m := 7) (xs := zt) rfl (fun h => by omega) ?_
 intro x H7 hle7 hfr
 obtain ⟨At, ct, rfl, hvt⟩ : ∃ At ct, x = .slice At 7 ct ∧ RdV H7 At zt := by
  rcases hfr with ⟨rfl, h1, h2⟩ | ⟨g, o, cap, rfl, _, h2⟩
  ·omega
  ·exact ⟨_, cap, rfl, fun e => (nomatch e), fun a e => by injection e with e; subst e; exact h2⟩
 have hjt : JAt H7 (objJ (turn (clMs c) a b)) [.int .i64 6, .bool false, .string ⟨#[]⟩, .slice none 0 0, .slice At 7 ct] := .mk rfl .nil (Js.RdV.nil _) (by rw [turn_len, clMs_len]) (hturn.mono hle7) hvt
 have hj7 := hj.mono hle7
 obtain ⟨zs, hms, hv7⟩ : ∃ zs, MsAt H7 (clMs c) zs ∧ RdV H7 B zs := by
  have hj8 := hj7
  unfold clJ objJ at hj8
  cases hj8 with
  | mk h1 h2 h3 h4 h5 h6 => exact ⟨_, h5, h6⟩
 have hz : zs.length = 7 * 6 := hms.length
 have hone := ones_Ms hms
 obtain ⟨b0, o0, rfl⟩ := hv7.addr2 (by omega)
 obtain ⟨b1, o1, e5, hrd7⟩ := hv7.2 _ rfl
 injection e5 with e5
 injection e5 with e1 e2
 subst e1 e2
 have hs1 : ∀ sz, subA (some ⟨b0, o0, none⟩) e (Int.toNat 0) sz = some ⟨b0, o0, none⟩ := fun sz => by
  unfold subA
  rw [if_neg (show ¬ e = Int.toNat 0 by show ¬ e = 0; omega)]
  simp [Addr.add]
 have hs2 : ∀ sz, subA (some ⟨b0, o0, none⟩) e ((d : Int) + 1).toNat sz = some ⟨b0, if e = d + 1 then o0 else o0 + (d + 1) * sz, none⟩ := fun sz => by
  unfold subA
  rw [show ((d : Int) + 1).toNat = d + 1 by omega]
  by_cases h : e = d + 1
  ·rw [if_pos h, if_pos h]
  ·rw [if_neg h, if_neg h]; simp [Addr.add]
 have hp1 : RdN H7 (some ⟨b0, o0, none⟩) 0 (zs.take (d * 6)) := by
  refine ⟨b0, o0, rfl, fun j x hx => ?_⟩
  rw [List.getElem?_take] at hx
  split at hx
  ·exact hrd7 j x hx
  ·cases hx
 have hp2 : RdN H7 (some ⟨b0, if e = d + 1 then o0 else o0 + (d + 1) * 6, none⟩) 0 (zs.drop ((d + 1) * 6)) := by
  refine ⟨b0, _, rfl, fun j x hx => ?_⟩
  have hx' := hx
  rw [List.getElem?_drop] at hx
  have hj := (List.getElem?_eq_some_iff.1 hx).1
  rw [if_neg (by omega)]
  have := hrd7 _ x hx
  rw [← this]
  congr 1
  omega
 have hl1 : (zs.take (d * 6)).length = d * 6 := by rw [List.length_take]; omega
 have hl2 : (zs.drop ((d + 1) * 6)).length = (7 - ((d : Int) + 1).toNat) * 6 := by rw [List.length_drop]; omega
 have ho1 : ∀ u ∈ zs.take (d * 6), u.oneCell' = true := fun u hu => hone u (List.mem_of_mem_take hu)
 have ho2 : ∀ u ∈ zs.drop ((d + 1) * 6), u.oneCell' = true := fun u hu => hone u (List.mem_of_mem_drop hu)
 have hless : MsAt H7 ((clMs c).take d ++ (clMs c).drop (d + 1)) (zs.take (d * 6) ++ zs.drop ((d + 1) * 6)) := msAt_app (msAt_take d hms) (msAt_drop (d + 1) hms)
 have hll : ((clMs c).take d ++ (clMs c).drop (d + 1)).length = 6 := by rw [List.length_append, List.length_take, List.length_drop, clMs_len]; omega
 obtain ⟨lms, hlms⟩ : ∃ l, (clMs c).take d ++ (clMs c).drop (d + 1) = l := ⟨_, rfl⟩
 rw [hlms] at hless hll
 refine codeL.cutTo So.tab 1 (stB c a b) ?_ (h2 _ hle7)
 (conv => whnf)
 refine WS.draw So.tab L13.mixed (.take 1 (.take 2 (.take 3 (.take 4 (.take 6 (.take 7 (.take 8 (.take 9 (.take 10 (.alt 0 (.alt 5 (.alt 11 (.alt 12 (.alt 13 (.alt 14 .done .no) .no) (.alt 13 (.alt 12 (.alt 14 .done .no) .no) .no)) (.alt 13 (.alt 11 (.alt 12 (.alt 14 .done .no) .no) .no) .no)) (.alt 13 (.alt 5 (.alt 11 (.alt 12 (.alt 14 .done .no) .no) .no) .no) .no)) (.alt 13 (.alt 0 (.alt 5 (.alt 11 (.alt 12 (.alt 14 .done .no) .no) .no) .no) .no) .no))))))))))) (by kernel_rfl) [] ?_
 (conv => whnf)
 refine ⟨⟨by omega, by omega, by omega⟩, ?_⟩
 (conv => whnf)
 rw [wrap64 (x := (d : Int) + 1) (by omega) (by omega)]
 refine ⟨⟨by omega, by omega⟩, ?_⟩
 (conv => whnf)
 rw [hs1, hs2]
 have hb1 : (0 + d) * 97 ≤ 140737488355328 := by omega
 have hb2 : (0 + (7 - ((d : Int) + 1).toNat)) * 97 ≤ 140737488355328 := by omega
 have hb3 : (0 + d + (7 - ((d : Int) + 1).toNat)) * 97 ≤ 140737488355328 := by omega
 rcases Nat.eq_zero_or_pos d with hd0 | hd0
 ·have hn1 : 0 + (7 - ((d : Int) + 1).toNat) = lms.length := by omega
  have hz0 : zs.take (d * 6) = [] := by rw [hd0]; simp
  rw [hz0, List.nil_append] at hless
  repeat' (first
   | exact trivial
   | exact rfl
   | exact hb2
   | exact ⟨rfl, rfl, trivial, rfl, trivial⟩
   | exact ⟨_, Tryz.func18, rfl, by kernel_rfl⟩
   | (refine ⟨Nat.le_of_ble_eq_true rfl, .inl ?_⟩; intro g H8 hle8 hrd; (conv => whnf))
   | (refine ⟨zs.take (d * 6), hl1, hp1.mono hle8, ho1, ?_⟩; (conv => whnf))
   | (refine ⟨zs.drop ((d + 1) * 6), hl2, hp2.mono hle8, ho2, ?_⟩; (conv => whnf))
   | (refine ⟨fun h0 => ⟨Nat.le_refl 0, ⟨_, _, rfl⟩, ?_⟩, fun h0 => absurd h0 (by omega)⟩; (conv => whnf))
   | (refine ⟨fun h0 => absurd h0 (by omega), fun h0 => ⟨rfl, [], rfl, hrd, ?_, ?_⟩⟩ <;> (conv => whnf))
   | (refine CallS.use (objR6 lms 6 hll (by omega) _ hn1 _ _ (hless.mono hle8) (by omega)) [4] rfl rfl ⟨rfl, trivial⟩ ?_; rintro e9 H9 G9 hle9 ⟨⟨Bl, dl, rfl, hjl⟩, rfl⟩; (conv => whnf))
   | (refine CallS.use (objR6 lms 6 hll (by omega) _ hn1 _ _ (hless.mono hle8) (by omega)) [5] rfl rfl ⟨rfl, trivial⟩ ?_; rintro e9 H9 G9 hle9 ⟨⟨Bl, dl, rfl, hjl⟩, rfl⟩; (conv => whnf))
   | exact ⟨_, _, [0, 1, 3, 4], ⟨a, b, d, _, _, _, _, _, _, rfl, rfl, ha, hb, hd, hR, hfc, he, hE1.mono (hle7.trans (hle8.trans hle9)), hj7.mono (hle8.trans hle9), hjt.mono (hle8.trans hle9), hlms ▸ hjl, rfl, rfl⟩, rfl, ⟨rfl, rfl, rfl, rfl, trivial⟩, rfl, rfl, rfl, rfl, rfl, rfl, trivial⟩
   | exact ⟨_, _, [0, 1, 3, 5], ⟨a, b, d, _, _, _, _, _, _, rfl, rfl, ha, hb, hd, hR, hfc, he, hE1.mono (hle7.trans (hle8.trans hle9)), hj7.mono (hle8.trans hle9), hjt.mono (hle8.trans hle9), hlms ▸ hjl, rfl, rfl⟩, rfl, ⟨rfl, rfl, rfl, rfl, trivial⟩, rfl, rfl, rfl, rfl, rfl, rfl, trivial⟩
   | exact ⟨_, _, [0, 1, 3, 6], ⟨a, b, d, _, _, _, _, _, _, rfl, rfl, ha, hb, hd, hR, hfc, he, hE1.mono (hle7.trans (hle8.trans hle9)), hj7.mono (hle8.trans hle9), hjt.mono (hle8.trans hle9), hlms ▸ hjl, rfl, rfl⟩, rfl, ⟨rfl, rfl, rfl, rfl, trivial⟩, rfl, rfl, rfl, rfl, rfl, rfl, trivial⟩
   | (refine And.intro ?_ ?_ <;> (conv => whnf)))
 ·have hn1 : 0 + d + (7 - ((d : Int) + 1).toNat) = lms.length := by omega
  repeat' (first
   | exact trivial
   | exact rfl
   | exact hb1
   | exact hb3
   | exact ⟨rfl, rfl, trivial, rfl, trivial⟩
   | exact ⟨_, Tryz.func18, rfl, by kernel_rfl⟩
   | (refine ⟨Nat.le_of_ble_eq_true rfl, .inl ?_⟩; intro g H8 hle8 hrd; (conv => whnf))
   | (refine ⟨zs.take (d * 6), hl1, hp1.mono hle8, ho1, ?_⟩; (conv => whnf))
   | (refine ⟨zs.drop ((d + 1) * 6), hl2, hp2.mono hle8, ho2, ?_⟩; (conv => whnf))
   | (refine ⟨fun h0 => absurd h0 (by omega), fun h0 => ⟨rfl, [], rfl, hrd, ?_, ?_⟩⟩ <;> (conv => whnf))
   | (refine CallS.use (objR6 lms 6 hll (by omega) _ hn1 _ _ (hless.mono hle8) (by omega)) [5] rfl rfl ⟨rfl, trivial⟩ ?_; rintro e9 H9 G9 hle9 ⟨⟨Bl, dl, rfl, hjl⟩, rfl⟩; (conv => whnf))
   | (refine CallS.use (objR6 lms 6 hll (by omega) _ hn1 _ _ (hless.mono hle8) (by omega)) [6] rfl rfl ⟨rfl, trivial⟩ ?_; rintro e9 H9 G9 hle9 ⟨⟨Bl, dl, rfl, hjl⟩, rfl⟩; (conv => whnf))
   | exact ⟨_, _, [0, 1, 3, 4], ⟨a, b, d, _, _, _, _, _, _, rfl, rfl, ha, hb, hd, hR, hfc, he, hE1.mono (hle7.trans (hle8.trans hle9)), hj7.mono (hle8.trans hle9), hjt.mono (hle8.trans hle9), hlms ▸ hjl, rfl, rfl⟩, rfl, ⟨rfl, rfl, rfl, rfl, trivial⟩, rfl, rfl, rfl, rfl, rfl, rfl, trivial⟩
   | exact ⟨_, _, [0, 1, 3, 5], ⟨a, b, d, _, _, _, _, _, _, rfl, rfl, ha, hb, hd, hR, hfc, he, hE1.mono (hle7.trans (hle8.trans hle9)), hj7.mono (hle8.trans hle9), hjt.mono (hle8.trans hle9), hlms ▸ hjl, rfl, rfl⟩, rfl, ⟨rfl, rfl, rfl, rfl, trivial⟩, rfl, rfl, rfl, rfl, rfl, rfl, trivial⟩
   | exact ⟨_, _, [0, 1, 3, 6], ⟨a, b, d, _, _, _, _, _, _, rfl, rfl, ha, hb, hd, hR, hfc, he, hE1.mono (hle7.trans (hle8.trans hle9)), hj7.mono (hle8.trans hle9), hjt.mono (hle8.trans hle9), hlms ▸ hjl, rfl, rfl⟩, rfl, ⟨rfl, rfl, rfl, rfl, trivial⟩, rfl, rfl, rfl, rfl, rfl, rfl, trivial⟩
   | exact ⟨_, _, [0, 1, 3, 7], ⟨a, b, d, _, _, _, _, _, _, rfl, rfl, ha, hb, hd, hR, hfc, he, hE1.mono (hle7.trans (hle8.trans hle9)), hj7.mono (hle8.trans hle9), hjt.mono (hle8.trans hle9), hlms ▸ hjl, rfl, rfl⟩, rfl, ⟨rfl, rfl, rfl, rfl, trivial⟩, rfl, rfl, rfl, rfl, rfl, rfl, trivial⟩
   | (refine And.intro ?_ ?_ <;> (conv => whnf)))
end Go.Kx.L13
namespace Go.Kx.L13
open Go.Proofs Go.Kx Go.RowKit Go.Kx.Js Go.Kx.Pr Go.Kx.Rt Go.Kx.Ob Go.Kx.Wo Go.Kx.Cl Go.Kx.Su Go.Kx.Se Go.Kx.Jw
set_option maxRecDepth 20000
set_option linter.unusedSimpArgs false
set_option maxHeartbeats 1000000 in
theorem ordC (c : Clm) (a b : Int) {F : Fr} {H1 : Hp} {G : List SB} (h1 : stB c a b F H1 G) :
  codeL Tryz.prog Tryz.f5.ntmps 0 .none (tailC soC 9) (endK Tryz.prog So.T 0 Tryz.f5.results.toList fun e _ _ => e = .ret (pv (.bool true))) F H1 G := by
 obtain ⟨a, b, d, B, At, Bl, e, ct, dl, rfl, rfl, ha, hb, hd, hR, hfc, he, hE1, hj, hjt, hjl, rfl, rfl⟩ := h1
 obtain ⟨zs, hms, hv⟩ : ∃ zs, MsAt H1 (clMs c) zs ∧ RdV H1 B zs := by
  have hj8 := hj
  unfold clJ objJ at hj8
  cases hj8 with
  | mk h1 h2 h3 h4 h5 h6 => exact ⟨_, h5, h6⟩
 have hz : zs.length = 7 * 6 := hms.length
 have hone := ones_Ms hms
 obtain ⟨b0, o0, rfl⟩ := hv.addr2 (by omega)
 obtain ⟨b1, o1, e5, hrd1⟩ := hv.2 _ rfl
 injection e5 with e5
 injection e5 with e1 e2
 subst e1 e2
 refine codeL.go So.tab ?_
 (conv => whnf)
 refine ⟨by decide, .inl ?_⟩
 intro g H2 hle2 hrd
 (conv => whnf)
 refine ⟨zs, hz, (hv.2 _ rfl).mono hle2, hone, ?_⟩
 (conv => whnf)
 refine ⟨fun h0 => absurd h0 (by omega), fun h0 => ⟨rfl, [], rfl, hrd, by show (0 + 7) * 97 ≤ _; omega, ?_⟩⟩
 (conv => whnf)
 refine ⟨⟨_, Tryz.func19, rfl, by kernel_rfl⟩, CallS.use (num_ 1 (by omega) (by omega) _) [] rfl rfl trivial ?_⟩
 rintro e H3 G' hle3 ⟨rfl, rfl, rfl⟩
 (conv => whnf)
 refine ⟨by decide, .inl ?_⟩
 intro g2 H4 hle4 hrd2
 (conv => whnf)
 refine ⟨[.string sX, .int .i64 3, .bool false, .string (Lb.itoaB 1), .slice none 0 0, .slice none 0 0], rfl, hrd2, ?_, ?_⟩
 ·intro u hu
  simp only [List.mem_cons, List.mem_nil_iff, or_false] at hu
  rcases hu with rfl | rfl | rfl | rfl | rfl | rfl <;> rfl
 (conv => whnf)
 refine ⟨Nat.le_of_ble_eq_true rfl, ?_⟩
 (conv => whnf)
 have hle14 : H1.Le H4 := (hle2.trans hle3).trans hle4
 have hmore : MsAt H4 (clMs c ++ [(sX, numJ 1)]) (zs ++ [.string sX, .int .i64 3, .bool false, .string (Lb.itoaB 1), .slice none 0 0, .slice none 0 0]) := msAt_app (hms.mono hle14) (msAt_one (.bare 3 false (Lb.itoaB 1)))
 have hml8 : (clMs c ++ [(sX, numJ 1)]).length = 8 := by rw [List.length_append, clMs_len]; rfl
 refine ⟨⟨_, Tryz.func18, rfl, by kernel_rfl⟩, CallS.use (objR6 _ 8 hml8 (by rw [hml8]; decide) 8 hml8.symm _ H4 hmore (by rw [hml8]; decide)) [5] rfl rfl ⟨rfl, trivial⟩ ?_⟩
 rintro e6 H5 G' hle5 ⟨⟨Bm, dm, rfl, hjm⟩, rfl⟩
 (conv => whnf)
 have h15 := hle14.trans hle5
 obtain ⟨t1, t2⟩ := obj_sm hR (ms := turn (clMs c) a b) (fun m hm => .inl (turn_mem hm)) (by rw [turn_len, clMs_len]; decide)
 obtain ⟨l1, l2⟩ := obj_sm hR (ms := (clMs c).take d ++ (clMs c).drop (d + 1)) (fun m hm => .inl (by
  rcases List.mem_append.1 hm with hm | hm
  ·exact List.mem_of_mem_take hm
  ·exact List.mem_of_mem_drop hm)) (by rw [List.length_append, List.length_take, List.length_drop, clMs_len]; omega)
 obtain ⟨m1, m2⟩ := obj_sm hR (ms := clMs c ++ [(sX, numJ 1)]) (fun m hm => by
  rcases List.mem_append.1 hm with hm | hm
  ·exact .inl hm
  ·exact .inr (List.mem_singleton.1 hm)) (by rw [hml8]; decide)
 have o2 : ∀ H, H1.Le H → CallO Tryz.prog 14 [agJ 6 false ⟨#[]⟩ none 0 0 Bl 6 dl] H [] fun e H' G' => e = .ret (.tu [.ag (csC clm0), .ce (.val (.int .i64 10))]) ∧ H.Le H' ∧ G' = [] := fun H hle => by
  have := of_ _ l1 l2 6 false ⟨#[]⟩ none 0 0 Bl 6 dl H (hE1.mono hle) (hjl.mono hle)
  rw [less_none hR hd] at this
  exact this
 have o3 : ∀ H, H5.Le H → CallO Tryz.prog 14 [agJ 6 false ⟨#[]⟩ none 0 0 Bm 8 dm] H [] fun e H' G' => e = .ret (.tu [.ag (csC clm0), .ce (.val (.int .i64 10))]) ∧ H.Le H' ∧ G' = [] := fun H hle => by
  have := of_ _ m1 m2 6 false ⟨#[]⟩ none 0 0 Bm 8 dm H (hE1.mono (h15.trans hle)) (hjm.mono hle)
  rw [more_none hR] at this
  exact this
 have o1 := of_ _ t1 t2 6 false ⟨#[]⟩ none 0 0 At 7 ct H5 (hE1.mono h15) (hjt.mono h15)
 by_cases hab : a = b
 ·subst hab
  rw [turn_same] at o1
  replace o1 : CallO Tryz.prog 14 [agJ 6 false ⟨#[]⟩ none 0 0 At 7 ct] H5 [] fun e H' G' => RO (ofP (clJ c)) e ∧ H5.Le H' ∧ G' = [] := o1
  rw [of_cl hR] at o1
  refine ⟨⟨_, Tryz.func14, rfl, by kernel_rfl⟩, CallS.use o1 [] rfl rfl trivial ?_⟩
  rintro e7 H6 G' hle6 ⟨rfl, hle6', rfl⟩
  (conv => whnf)
  refine ⟨⟨_, Tryz.func14, rfl, by kernel_rfl⟩, CallS.use (o2 H6 (h15.trans hle6)) [] rfl rfl trivial ?_⟩
  rintro e8 H7 G' hle7 ⟨rfl, hle7', rfl⟩
  (conv => whnf)
  refine ⟨⟨_, Tryz.func14, rfl, by kernel_rfl⟩, CallS.use (o3 H7 (hle6.trans hle7)) [] rfl rfl trivial ?_⟩
  rintro e9 H8 G' hle8 ⟨rfl, hle8', rfl⟩
  (conv => whnf)
  rw [show ((a : Int) == a) = true from beq_self_eq_true _]
  (conv => whnf)
  change QO _ _ _ _ _ _
  refine eqClm (x := .tmp 141) (y := .tmp 142) ?_ c c ?_ ?_ hfc hfc ?_
  ·rfl
  ·rfl
  ·rfl
  intro r hr
  obtain rfl : r = true := hr.2 rfl
  (conv => whnf)
  rfl
 ·rw [turn_none hR ha hb hab] at o1
  refine ⟨⟨_, Tryz.func14, rfl, by kernel_rfl⟩, CallS.use o1 [] rfl rfl trivial ?_⟩
  rintro e7 H6 G' hle6 ⟨rfl, hle6', rfl⟩
  (conv => whnf)
  refine ⟨⟨_, Tryz.func14, rfl, by kernel_rfl⟩, CallS.use (o2 H6 (h15.trans hle6)) [] rfl rfl trivial ?_⟩
  rintro e8 H7 G' hle7 ⟨rfl, hle7', rfl⟩
  (conv => whnf)
  refine ⟨⟨_, Tryz.func14, rfl, by kernel_rfl⟩, CallS.use (o3 H7 (hle6.trans hle7)) [] rfl rfl trivial ?_⟩
  rintro e9 H8 G' hle8 ⟨rfl, hle8', rfl⟩
  (conv => whnf)
  rw [show ((a : Int) == b) = false by rw [beq_eq_false_iff_ne]; omega]
  (conv => whnf)
  rfl
end Go.Kx.L13
namespace Go.Kx.L13
open Go.Proofs Go.Kx Go.RowKit Go.Kx.Js Go.Kx.Pr Go.Kx.Rt Go.Kx.Ob Go.Kx.Wo Go.Kx.Cl Go.Kx.Su Go.Kx.Se Go.Kx.Jw
set_option maxRecDepth 20000
set_option linter.unusedSimpArgs false
theorem setOrders (c : Clm) (hn : (Lit.int .i64 c.iat).wf = true) (hkw : (Lit.int .i64 c.kind).wf = true) (a b d : Int) (H : Hp) (hE : ErrH H) : CallO Tryz.prog 5 [.si (.ag (csC c)), pv (.int .i64 a), pv (.int .i64 b), pv (.int .i64 d)] H [] fun e _ _ => e = .ret (pv (.bool true)) := by
 have hk := kind_wf hkw
 refine CallO.of_bodyW So.tab Tryz.func5 rfl (nt := Tryz.f5.ntmps) rfl (by kernel_rfl) ?_
 refine (codeL.cutTo So.tab 8 (stA c a b d) ?_ ?_).to
 rotate_left
 ·intro F H1 G hle1 h1
  refine ordB c a b d h1 ?_
  exact fun F' H' G' _ h => ordC c a b h
 (conv => whnf)
 refine ⟨⟨_, Tryz.func8, rfl, by kernel_rfl⟩, CallS.use (anchor_ H hE) [] rfl rfl trivial ?_⟩
 rintro e H2 G' hle2 ⟨rfl, _, rfl⟩
 (conv => whnf)
 refine ⟨⟨_, Tryz.func9, rfl, by kernel_rfl⟩, CallS.use (listed0 c H2) [] rfl rfl trivial ?_⟩
 rintro e H3 G' hle3 ⟨⟨bb, rfl, hfit⟩, hle3', rfl⟩
 cases bb
 ·(conv => whnf)
  rfl
 obtain ⟨hft, hfc⟩ := listed_fit (hfit rfl) hn hkw
 (conv => whnf)
 refine ⟨⟨_, Tryz.func12, rfl, by kernel_rfl⟩, CallS.use (Rf.right13 c.iss c.jti c.aud c.iat c.txn c.sub.fmt c.sub.id c.sub.own c.kind c.reason hft H3) [] rfl rfl trivial ?_⟩
 rintro e H4 G' hle4 ⟨rfl, hle4', rfl⟩
 rw [show clRight ⟨c.iss, c.jti, c.aud, c.iat, c.txn, ⟨c.sub.fmt, c.sub.id, c.sub.own⟩, c.kind, c.reason⟩ = clRight c from rfl]
 have hri := right_iff c
 cases hr : clRight c
 ·(conv => whnf)
  rfl
 have hR := hri.1 hr
 (conv => whnf)
 cases g1 : decide (a < 0) <;> (conv => whnf)
 rotate_left
 ·rfl
 have g1 := of_decide_eq_false g1
 cases g2 : decide (a > 6) <;> (conv => whnf)
 rotate_left
 ·rfl
 have g2 := of_decide_eq_false g2
 cases g3 : decide (b < 0) <;> (conv => whnf)
 rotate_left
 ·rfl
 have g3 := of_decide_eq_false g3
 cases g4 : decide (b > 6) <;> (conv => whnf)
 rotate_left
 ·rfl
 have g4 := of_decide_eq_false g4
 cases g5 : decide (d < 0) <;> (conv => whnf)
 rotate_left
 ·rfl
 have g5 := of_decide_eq_false g5
 cases g6 : decide (d > 6) <;> (conv => whnf)
 rotate_left
 ·rfl
 have g6 := of_decide_eq_false g6
 obtain ⟨a, rfl⟩ : ∃ n : Nat, a = n := ⟨a.toNat, by omega⟩
 obtain ⟨b, rfl⟩ : ∃ n : Nat, b = n := ⟨b.toNat, by omega⟩
 obtain ⟨d, rfl⟩ : ∃ n : Nat, d = n := ⟨d.toNat, by omega⟩
 refine ⟨⟨_, Tryz.func10, rfl, by kernel_rfl⟩, CallS.use (value2 c.iss c.jti c.aud c.iat c.txn c.sub.fmt c.sub.id c.sub.own c.kind c.reason hk hr H4) [] rfl rfl trivial ?_⟩
 rintro e H5 G' hle5 ⟨⟨B2, d2, rfl, hj, hd2⟩, hle5', rfl⟩
 obtain ⟨zs, hms, hv⟩ : ∃ zs, MsAt H5 (clMs c) zs ∧ RdV H5 B2 zs := by
  unfold clJ objJ at hj
  cases hj with
  | mk h1 h2 h3 h4 h5 h6 => exact ⟨_, h5, h6⟩
 (conv => whnf)
 have hz : zs.length = 7 * 6 := hms.length
 have hone := ones_Ms hms
 refine ⟨⟨_, Tryz.func18, rfl, by kernel_rfl⟩, CallS.use (objO 7 B2 d2 zs hz hone (by decide) (by decide) H5 hv) [] rfl rfl trivial ?_⟩
 rintro e H6 G' hle6 ⟨rfl, rfl⟩
 (conv => whnf)
 obtain ⟨sa, ja, ka, ya, ta, Aa, na, ca, Ba, ma, ea, hsa, hja, hza⟩ := mem_cells hms (i := a) (by rw [clMs_len]; omega)
 obtain ⟨sb, jb, kb, yb, tb, Ab, nb, cb, Bb, mb, eb, hsb, hjb, hzb⟩ := mem_cells hms (i := b) (by rw [clMs_len]; omega)
 refine WS.bunch So.tab L13.mixed [0, 1, 2, 3, 4, 5, 6, 7, 8, 11, 12, 13]
  [(9, [], fun sv _ => sv = .si (.ce (.ptr 3 (b * 6)))), (10, [9], fun sv _ => sv = .si (.ag [.val (.string sb), .val (.int .i64 kb), .val (.bool yb), .val (.string tb), .val (.slice Ab nb cb), .val (.slice Bb mb eb)])),
   (14, [], fun sv _ => sv = .si (.ce (.ptr 3 (a * 6)))), (15, [14], fun sv _ => sv = .si (.ag [.val (.string sa), .val (.int .i64 ka), .val (.bool ya), .val (.string ta), .val (.slice Aa na ca), .val (.slice Ba ma ea)])),
   (16, [], fun sv _ => sv = .si (.ce (.ptr 3 (a * 6))))]
  (.alt 17 (.alt 18 (.alt 19 .done .no) .no) .no) 3 (by kernel_rfl) [3] ⟨fun _ _ _ _ h => h, fun _ _ _ _ h => h, fun _ _ _ _ h => h, fun _ _ _ _ h => h, fun _ _ _ _ h => h, trivial⟩ (by kernel_rfl) ?_
 (conv => whnf)
 refine ⟨⟨?_, ?_, ?_, ?_, ?_, trivial⟩, ?_⟩
 ·intro H' hle'
  (conv => whnf)
  refine ⟨⟨by omega, by omega⟩, ?_⟩
  (conv => whnf)
  exact ⟨rfl, rfl, rfl⟩
 ·intro H' hle'
  (conv => whnf)
  rintro sv rfl
  (conv => whnf)
  refine ⟨[.string sb, .int .i64 kb, .bool yb, .string tb, .slice Ab nb cb, .slice Bb mb eb], rfl, fun j x hx => sub_get hzb j x hx, ?_⟩
  (conv => whnf)
  exact ⟨rfl, rfl, rfl⟩
 ·intro H' hle'
  (conv => whnf)
  refine ⟨⟨by omega, by omega⟩, ?_⟩
  (conv => whnf)
  exact ⟨rfl, rfl, rfl⟩
 ·intro H' hle'
  (conv => whnf)
  rintro sv rfl
  (conv => whnf)
  refine ⟨[.string sa, .int .i64 ka, .bool ya, .string ta, .slice Aa na ca, .slice Ba ma ea], rfl, fun j x hx => sub_get hza j x hx, ?_⟩
  (conv => whnf)
  exact ⟨rfl, rfl, rfl⟩
 ·intro H' hle'
  (conv => whnf)
  refine ⟨⟨by omega, by omega⟩, ?_⟩
  (conv => whnf)
  exact ⟨rfl, rfl, rfl⟩
 intro H' hle'
 (conv => whnf)
 rintro sv rfl
 (conv => whnf)
 rintro sv rfl
 (conv => whnf)
 rintro sv rfl
 (conv => whnf)
 rintro sv rfl
 (conv => whnf)
 rintro sv rfl
 (conv => whnf)
 refine And.intro ?_ ?_ <;> (conv => whnf)
 rotate_left
 ·exact trivial
 refine ⟨by show a * 6 + 6 ≤ zs.length; omega, ?_⟩
 (conv => whnf)
 refine And.intro ?_ ?_
 ·exact ⟨rfl, rfl, rfl, trivial, rfl, trivial⟩
 (conv => whnf)
 refine And.intro ?_ ?_ <;> (conv => whnf)
 rotate_left
 ·exact trivial
 refine ⟨⟨by omega, by omega⟩, ?_⟩
 (conv => whnf)
 refine And.intro ?_ ?_
 ·exact ⟨rfl, rfl, rfl, trivial, rfl, trivial⟩
 (conv => whnf)
 refine And.intro ?_ ?_ <;> (conv => whnf)
 rotate_left
 ·exact trivial
 refine ⟨by show b * 6 + 6 ≤ _; rw [splice_length (by show a * 6 + 6 ≤ zs.length; omega)]; omega, ?_⟩
 (conv => whnf)
 refine And.intro ?_ ?_
 ·exact ⟨rfl, rfl, rfl, trivial, rfl, trivial⟩
 (conv => whnf)
 have hms3 := hms.mono hle6
 have hturn : MsAt H6 (turn (clMs c) a b) (splice (splice zs (a * 6) [.string sb, .int .i64 kb, .bool yb, .string tb, .slice Ab nb cb, .slice Bb mb eb]) (b * 6) [.string sa, .int .i64 ka, .bool ya, .string ta, .slice Aa na ca, .slice Ba ma ea]) := by
  have h1 := msAt_set hms3 (i := a) (by rw [clMs_len]; omega) (s := sb) (hjb.mono hle6)
  have h2 := msAt_set h1 (i := b) (by rw [List.length_set, clMs_len]; omega) (s := sa) (hja.mono hle6)
  have : turn (clMs c) a b = ((clMs c).set a (sb, jb)).set b (sa, ja) := by unfold turn; rw [hsa, hsb]
  rw [this]
  exact h2
 exact ⟨_, _, [0, 2, 3, 4], ⟨a, b, d, B2, d2, _, rfl, rfl, rfl, by omega, by omega, by omega, hR, hfc, hd2, hE.mono ((((hle2.trans hle3).trans hle4).trans hle5).trans (hle6.trans hle')), hturn.mono hle', hj.mono (hle6.trans hle'), rfl, rfl⟩, rfl, ⟨rfl, rfl, rfl, rfl, trivial⟩, rfl, rfl, rfl, rfl, rfl, rfl, trivial⟩
end Go.Kx.L13
