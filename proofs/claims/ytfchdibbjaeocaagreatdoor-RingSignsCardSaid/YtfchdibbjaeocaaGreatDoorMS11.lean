/- Values that are made: texts, numbers, objects. No condition of its own. -/
import Derived.Test.YtfchdibbjaeocaaGreatDoorMS10
import Derived.Shelf.Strconv.ParseIntPublic10
import Derived.Lib.ParseIntBTie
import Derived.Test.YtfchdibbjaeocaaGreatDoorRows
import Derived.Lib.LaidTab
import Derived.Stop.LaidErr
import Derived.LaidSub
import Derived.MakeChecks
import Derived.Stop.ErrReads
import Derived.Test.YtfchdibbjaeocaaGreatDoorProg
namespace Go.Kx.Ob
open Go.Proofs Go.Kx Go.RowKit Go.Kx.Js Go.Kx.Pr Go.Kx.Rt
set_option maxRecDepth 20000
set_option linter.unusedSimpArgs false
def T : Tab := [(34, { k := TK.st [(0, 3, 1), (1, 4, 1), (2, 9, 1), (3, 31, 1), (4, 32, 1)], agg := true, size := 5, bytes := 80, zero := [Z.i IntKind.i64, Z.b, Z.s, Z.sl, Z.sl] }), (52, { k := TK.st [(0, 9, 1), (1, 34, 5)], agg := true, size := 6, bytes := 96, zero := [Z.s, Z.i IntKind.i64, Z.b, Z.s, Z.sl, Z.sl] }), (9, { k := TK.string, agg := false, size := 1, bytes := 16, zero := [Z.s] }), (4, { k := TK.bool, agg := false, size := 1, bytes := 1, zero := [Z.b] }), (35, { k := TK.int IntKind.i64, agg := false, size := 1, bytes := 8, zero := [Z.i IntKind.i64] }), (32, { k := TK.slice 52, agg := false, size := 1, bytes := 24, zero := [Z.sl] }), (3, { k := TK.int IntKind.i64, agg := false, size := 1, bytes := 8, zero := [Z.i IntKind.i64] }), (2, { k := TK.int IntKind.i64, agg := false, size := 1, bytes := 8, zero := [Z.i IntKind.i64] }), (138, { k := TK.ifc, agg := false, size := 1, bytes := 16, zero := [Z.ifc] }), (31, { k := TK.slice 34, agg := false, size := 1, bytes := 24, zero := [Z.sl] })]
set_option maxRecDepth 100000 in
theorem tab : TabOk Tryz.prog T := tabOk_mk (ts := [34, 52, 9, 4, 35, 32, 3, 2, 138, 31]) (by kernel_rfl)
theorem mixed : Tryz.prog.follows .mixedOrders = true := by kernel_rfl
def strJ (s : ByteArray) : J := .mk 4 false s [] []
def numJ (n : Int) : J := .mk 3 false (Lb.itoaB n) [] []
def objJ (ms : List (ByteArray × J)) : J := .mk 6 false ⟨#[]⟩ [] ms
theorem RdV.nil (H : Hp) : RdV H none [] := by
  exact ⟨fun _ => rfl, fun a e => (nomatch e)⟩
theorem ones_J {H : Hp} {j : J} {cs : List Value} (h : JAt H j cs) : ∀ u ∈ cs, u.oneCell' = true := by
  obtain ⟨A, n, c, B, m, d, rfl⟩ := h.cells
  intro u hu
  simp only [List.mem_cons, List.mem_nil_iff, or_false] at hu
  rcases hu with rfl | rfl | rfl | rfl | rfl <;> rfl
theorem ones_Ms {H : Hp} : ∀ {ms : List (ByteArray × J)} {zs : List Value}, MsAt H ms zs → ∀ u ∈ zs, u.oneCell' = true
  | _, _, .nil => fun u hu => by simp at hu
  | _, _, .cons h1 h2 => fun u hu => by
    rcases List.mem_append.1 hu with hu | hu
    · rcases List.mem_cons.1 hu with rfl | hu
      · rfl
      · exact ones_J h1 u hu
    · exact ones_Ms h2 u hu
theorem str_ (s : ByteArray) (H : Hp) : CallO Tryz.prog 48 [pv (.string s)] H [] fun e H' G' => e = .ret (agJ 4 false s none 0 0 none 0 0) ∧ H' = H ∧ G' = [] := by
  refine CallO.of_body tab Tryz.func48 rfl (nt := Tryz.f48.ntmps) rfl (by kernel_rfl) ?_
  (conv => whnf)
  exact ⟨rfl, rfl, rfl⟩
theorem num_ (n : Int) (h0 : -9223372036854775808 ≤ n) (h1 : n ≤ 9223372036854775807) (H : Hp) : CallO Tryz.prog 23 [pv (.int .i64 n)] H [] fun e H' G' => e = .ret (agJ 3 false (Lb.itoaB n) none 0 0 none 0 0) ∧ H' = H ∧ G' = [] := by
  refine CallO.of_body tab Tryz.func23 rfl (nt := Tryz.f23.ntmps) rfl (by kernel_rfl) ?_
  (conv => whnf)
  refine ⟨⟨_, Tryz.func66, rfl, by kernel_rfl⟩, CallS.use (Lb.itoa n h0 h1 H []) [] rfl rfl trivial ?_⟩
  rintro e H1 G' hle1 ⟨rfl, rfl, rfl⟩
  (conv => whnf)
  exact ⟨rfl, rfl, rfl⟩
theorem clone0 (A : Option Addr) (n c : Nat) (zs : List Value) (hz : zs.length = n * 6) (hone : ∀ u ∈ zs, u.oneCell' = true) (h0 : 0 < n) (hn : n ≤ 1000000) (H : Hp) (hv : RdV H A zs) :
    CallO Tryz.prog 65 [pv (.slice A n c)] H [] fun e _ G' => e = .ret (.si (.ce (.self 0))) ∧ G' = [.row 52 6 n zs] := by
  refine CallO.of_body tab Tryz.func65 rfl (nt := Tryz.f65.ntmps) rfl (by kernel_rfl) ?_
  (conv => whnf)
  cases A with
  | none =>
    have := hv.1 rfl
    rw [this] at hz
    simp at hz
    omega
  | some a =>
    (conv => whnf)
    refine ⟨by decide, .inl ?_⟩
    intro g H2 hle hrd
    (conv => whnf)
    refine ⟨zs, hz, (hv.2 a rfl).mono hle, hone, fun h => absurd h (by omega), fun _ => ⟨rfl, [], rfl, hrd, ?_, ?_⟩⟩
    · show (0 + n) * 97 ≤ _
      omega
    (conv => whnf)
    exact ⟨rfl, by rw [Nat.zero_add]; rfl⟩
theorem cloneNil (H : Hp) : CallO Tryz.prog 65 [pv (.slice none 0 0)] H [] fun e H' G' => e = .ret (pv (.slice none 0 0)) ∧ H' = H ∧ G' = [] := by
  refine CallO.of_body tab Tryz.func65 rfl (nt := Tryz.f65.ntmps) rfl (by kernel_rfl) ?_
  (conv => whnf)
  exact ⟨rfl, rfl, rfl⟩
theorem obj_ (ms : List (ByteArray × J)) (hml : ms.length ≤ 1000000) (A : Option Addr) (c : Nat) (zs : List Value) (H : Hp) (hm : MsAt H ms zs) (hv : RdV H A zs) (h0 : 0 < ms.length) :
    CallO Tryz.prog 22 [pv (.slice A ms.length c)] H [] fun e H' G' => (∃ B d, e = .ret (agJ 6 false ⟨#[]⟩ none 0 0 B ms.length d) ∧ JAt H' (objJ ms) [.int .i64 6, .bool false, .string ⟨#[]⟩, .slice none 0 0, .slice B ms.length d]) ∧ G' = [] := by
  have hcl : CallO Tryz.prog 65 [pv (.slice A ms.length c)] H [] fun e H' G' => (∃ B d, e = .ret (pv (.slice B ms.length d)) ∧ RdV H' B zs) ∧ G' = [] := by
    refine CallO.sub (CallO.frz (K := fun e H' G' => (∃ B d, e = .ret (pv (.slice B ms.length d)) ∧ RdV H' B zs) ∧ G' = [.dead]) (clone0 A ms.length c zs hm.length (ones_Ms hm) h0 hml H hv) ?_) ?_
    · rintro e H' G' hle ⟨rfl, rfl⟩
      refine ⟨0, 52, 6, _, _, rfl, fun hz => absurd hz (by omega), fun x H2 hle2 hfr => ?_⟩
      rcases hfr with ⟨rfl, h1, h2⟩ | ⟨g, o, cap, rfl, _, h2⟩
      · omega
      · exact ⟨⟨_, cap, rfl, fun e => (nomatch e), fun a e => by injection e with e; subst e; exact h2⟩, rfl⟩
    · rintro e H' G' hle ⟨⟨B, d, rfl, hv⟩, rfl⟩
      exact ⟨_, [], [], rfl, trivial, rfl, ⟨B, d, rfl, hv⟩, rfl⟩
  refine CallO.of_body tab Tryz.func22 rfl (nt := Tryz.f22.ntmps) rfl (by kernel_rfl) ?_
  (conv => whnf)
  refine ⟨⟨_, Tryz.func65, rfl, by kernel_rfl⟩, CallS.use hcl [] rfl rfl trivial ?_⟩
  rintro e H1 G' hle1 ⟨⟨B, d, rfl, hv1⟩, rfl⟩
  (conv => whnf)
  exact ⟨⟨B, d, rfl, .mk rfl .nil (RdV.nil _) rfl (hm.mono hle1) hv1⟩, rfl⟩
theorem objNil (H : Hp) : CallO Tryz.prog 22 [pv (.slice none 0 0)] H [] fun e H' G' => e = .ret (agJ 6 false ⟨#[]⟩ none 0 0 none 0 0) ∧ H' = H ∧ G' = [] := by
  refine CallO.of_body tab Tryz.func22 rfl (nt := Tryz.f22.ntmps) rfl (by kernel_rfl) ?_
  (conv => whnf)
  refine ⟨⟨_, Tryz.func65, rfl, by kernel_rfl⟩, CallS.use (cloneNil H) [] rfl rfl trivial ?_⟩
  rintro e H1 G' hle1 ⟨rfl, rfl, rfl⟩
  (conv => whnf)
  exact ⟨rfl, rfl, rfl⟩
def sameP (a b : J) : Bool := rightJ a && rightJ b && (wrJ a == wrJ b)
theorem same_ (a b : J) (ha : smJ a) (hb : smJ b) (hla : 6 * (wrJ a).length ≤ 8000000) (hlb : 6 * (wrJ b).length ≤ 8000000)
    (k : Int) (y : Bool) (t : ByteArray) (A : Option Addr) (n c : Nat) (B : Option Addr) (m d : Nat) (k2 : Int) (y2 : Bool) (t2 : ByteArray) (A2 : Option Addr) (n2 c2 : Nat) (B2 : Option Addr) (m2 d2 : Nat) (H : Hp)
    (hj : JAt H a [.int .i64 k, .bool y, .string t, .slice A n c, .slice B m d]) (hj2 : JAt H b [.int .i64 k2, .bool y2, .string t2, .slice A2 n2 c2, .slice B2 m2 d2]) :
    CallO Tryz.prog 21 [agJ k y t A n c B m d, agJ k2 y2 t2 A2 n2 c2 B2 m2 d2] H [] fun e H' G' => e = .ret (pv (.bool (sameP a b))) ∧ H.Le H' ∧ G' = [] := by
  refine CallO.of_body tab Tryz.func21 rfl (nt := Tryz.f21.ntmps) rfl (by kernel_rfl) ?_
  (conv => whnf)
  refine ⟨⟨_, Tryz.func17, rfl, by kernel_rfl⟩, CallS.use (print_ a ha hla k y t A n c B m d H hj) [] rfl rfl trivial ?_⟩
  rintro e H1 G' hle1 ⟨rfl, hl1, rfl⟩
  (conv => whnf)
  refine ⟨⟨_, Tryz.func17, rfl, by kernel_rfl⟩, CallS.use (print_ b hb hlb k2 y2 t2 A2 n2 c2 B2 m2 d2 H1 (hj2.mono hl1)) [] rfl rfl trivial ?_⟩
  rintro e H2 G' hle2 ⟨rfl, hl2, rfl⟩
  unfold sameP printP
  cases ra : rightJ a <;> cases rb : rightJ b
  all_goals (conv => whnf)
  all_goals refine ⟨congrArg (fun b => SE.ret (pv (.bool b))) ?_, hl1.trans hl2, rfl⟩
  all_goals first
    | rfl
    | (rw [Bool.true_and, Bool.true_and, Bool.eq_iff_iff, strEq_iff, beq_iff_eq]
       constructor
       · intro h; have := congrArg (fun b : ByteArray => b.data.toList) h; simpa using this
       · intro h; rw [h])
end Go.Kx.Ob
namespace Go.Proofs
open Go.Shelf
def Tryz.laysParse_ren : Go.Shelf.Ren := ⟨fun | 174 => 108 | 247 => 150 | 245 => 151 | 287 => 181 | 279 => 182 | 280 => 183 | 281 => 184 | 282 => 185 | 321 => 222 | 322 => 223 | 316 => 224 | 171 => 66 | 205 => 225 | 243 => 110 | 246 => 152 | 283 => 186 | 284 => 187 | 285 => 188 | 286 => 189 | 129 => 221 | 317 => 226 | 318 => 227 | 319 => 228 | 320 => 229 | 337 => 249 | 338 => 250 | n => n, fun | 9 => 9 | 3 => 3 | 2 => 2 | 75 => 138 | 85 => 146 | 4 => 4 | 167 => 210 | 5 => 5 | 53 => 211 | 175 => 212 | 46 => 186 | 168 => 214 | 37 => 55 | 0 => 0 | 210 => 253 | 21 => 21 | 127 => 145 | 145 => 273 | 143 => 271 | 171 => 217 | 173 => 220 | 212 => 256 | 51 => 196 | 20 => 20 | 213 => 257 | 232 => 280 | 233 => 281 | 80 => 42 | n => n, fun | 15 => 3 | 16 => 4 | 17 => 5 | 18 => 6 | 19 => 7 | n => n⟩
theorem Tryz.laysParse : Go.Proofs.LaysC.n174 Tryz.prog Tryz.laysParse_ren where
  mixed := by kernel_rfl
  f129 := Tryz.func221.trans (congrArg some (by kernel_rfl))
  f171 := Tryz.func66.trans (congrArg some (by kernel_rfl))
  f174 := Tryz.func108.trans (congrArg some (by kernel_rfl))
  f205 := Tryz.func225.trans (congrArg some (by kernel_rfl))
  f243 := Tryz.func110.trans (congrArg some (by kernel_rfl))
  f245 := Tryz.func151.trans (congrArg some (by kernel_rfl))
  f246 := Tryz.func152.trans (congrArg some (by kernel_rfl))
  f247 := Tryz.func150.trans (congrArg some (by kernel_rfl))
  f279 := Tryz.func182.trans (congrArg some (by kernel_rfl))
  f280 := Tryz.func183.trans (congrArg some (by kernel_rfl))
  f281 := Tryz.func184.trans (congrArg some (by kernel_rfl))
  f282 := Tryz.func185.trans (congrArg some (by kernel_rfl))
  f283 := Tryz.func186.trans (congrArg some (by kernel_rfl))
  f284 := Tryz.func187.trans (congrArg some (by kernel_rfl))
  f285 := Tryz.func188.trans (congrArg some (by kernel_rfl))
  f286 := Tryz.func189.trans (congrArg some (by kernel_rfl))
  f287 := Tryz.func181.trans (congrArg some (by kernel_rfl))
  f316 := Tryz.func224.trans (congrArg some (by kernel_rfl))
  f317 := Tryz.func226.trans (congrArg some (by kernel_rfl))
  f318 := Tryz.func227.trans (congrArg some (by kernel_rfl))
  f319 := Tryz.func228.trans (congrArg some (by kernel_rfl))
  f320 := Tryz.func229.trans (congrArg some (by kernel_rfl))
  f321 := Tryz.func222.trans (congrArg some (by kernel_rfl))
  f322 := Tryz.func223.trans (congrArg some (by kernel_rfl))
  f337 := Tryz.func249.trans (congrArg some (by kernel_rfl))
  f338 := Tryz.func250.trans (congrArg some (by kernel_rfl))
  t0 := Tryz.underlying0
  a0 := Tryz.isAgg0
  z0 := Tryz.sizeOf0
  v0 := Tryz.zeroValue0
  t2 := Tryz.underlying2
  a2 := Tryz.isAgg2
  z2 := Tryz.sizeOf2
  v2 := Tryz.zeroValue2
  t3 := Tryz.underlying3
  a3 := Tryz.isAgg3
  z3 := Tryz.sizeOf3
  v3 := Tryz.zeroValue3
  t4 := Tryz.underlying4
  a4 := Tryz.isAgg4
  z4 := Tryz.sizeOf4
  v4 := Tryz.zeroValue4
  t5 := Tryz.underlying5
  a5 := Tryz.isAgg5
  z5 := Tryz.sizeOf5
  v5 := Tryz.zeroValue5
  t9 := Tryz.underlying9
  a9 := Tryz.isAgg9
  z9 := Tryz.sizeOf9
  v9 := Tryz.zeroValue9
  t20 := Tryz.underlying20
  a20 := Tryz.isAgg20
  z20 := Tryz.sizeOf20
  v20 := Tryz.zeroValue20
  t21 := Tryz.underlying21
  a21 := Tryz.isAgg21
  z21 := Tryz.sizeOf21
  v21 := Tryz.zeroValue21
  t37 := Tryz.underlying55
  a37 := Tryz.isAgg55
  z37 := Tryz.sizeOf55
  v37 := Tryz.zeroValue55
  t46 := Tryz.underlying186
  a46 := Tryz.isAgg186
  z46 := Tryz.sizeOf186
  v46 := Tryz.zeroValue186
  t51 := Tryz.underlying196
  a51 := Tryz.isAgg196
  z51 := Tryz.sizeOf196
  v51 := Tryz.zeroValue196
  t53 := Tryz.underlying211
  a53 := Tryz.isAgg211
  z53 := Tryz.sizeOf211
  v53 := Tryz.zeroValue211
  t75 := Tryz.underlying138
  a75 := Tryz.isAgg138
  z75 := Tryz.sizeOf138
  v75 := Tryz.zeroValue138
  t85 := Tryz.underlying146
  a85 := Tryz.isAgg146
  z85 := Tryz.sizeOf146
  v85 := Tryz.zeroValue146
  t127 := Tryz.underlying145
  a127 := Tryz.isAgg145
  z127 := Tryz.sizeOf145
  v127 := Tryz.zeroValue145
  t143 := Tryz.underlying271
  a143 := Tryz.isAgg271
  z143 := Tryz.sizeOf271
  v143 := Tryz.zeroValue271
  t145 := Tryz.underlying273
  a145 := Tryz.isAgg273
  z145 := Tryz.sizeOf273
  v145 := Tryz.zeroValue273
  t167 := Tryz.underlying210
  a167 := Tryz.isAgg210
  z167 := Tryz.sizeOf210
  v167 := Tryz.zeroValue210
  t168 := Tryz.underlying214
  a168 := Tryz.isAgg214
  z168 := Tryz.sizeOf214
  v168 := Tryz.zeroValue214
  t171 := Tryz.underlying217
  a171 := Tryz.isAgg217
  z171 := Tryz.sizeOf217
  v171 := Tryz.zeroValue217
  t173 := Tryz.underlying220
  a173 := Tryz.isAgg220
  z173 := Tryz.sizeOf220
  v173 := Tryz.zeroValue220
  t175 := Tryz.underlying212
  a175 := Tryz.isAgg212
  z175 := Tryz.sizeOf212
  v175 := Tryz.zeroValue212
  t210 := Tryz.underlying253
  a210 := Tryz.isAgg253
  z210 := Tryz.sizeOf253
  v210 := Tryz.zeroValue253
  t212 := Tryz.underlying256
  a212 := Tryz.isAgg256
  z212 := Tryz.sizeOf256
  v212 := Tryz.zeroValue256
  t213 := Tryz.underlying257
  a213 := Tryz.isAgg257
  z213 := Tryz.sizeOf257
  t232 := Tryz.underlying280
  a232 := Tryz.isAgg280
  z232 := Tryz.sizeOf280
  v232 := Tryz.zeroValue280
  t233 := Tryz.underlying281
  a233 := Tryz.isAgg281
  z233 := Tryz.sizeOf281
  v233 := Tryz.zeroValue281
  g15 := by kernel_rfl
  g16 := by kernel_rfl
  g17 := by kernel_rfl
  g18 := by kernel_rfl
  g19 := by kernel_rfl
  t80 := Tryz.underlying42
  a80 := Tryz.isAgg42
  z80 := Tryz.sizeOf42
  v80 := Tryz.zeroValue42
  i0 := by kernel_rfl
  i2 := by kernel_rfl
  i3 := by kernel_rfl
  i4 := by kernel_rfl
  i5 := by kernel_rfl
  i9 := by kernel_rfl
  i20 := by kernel_rfl
  i21 := by kernel_rfl
  i37 := by kernel_rfl
  i46 := by kernel_rfl
  i51 := by kernel_rfl
  i53 := by kernel_rfl
  i75 := by kernel_rfl
  i80 := by kernel_rfl
  i85 := by kernel_rfl
  i127 := by kernel_rfl
  i143 := by kernel_rfl
  i145 := by kernel_rfl
  i167 := by kernel_rfl
  i168 := by kernel_rfl
  i171 := by kernel_rfl
  i173 := by kernel_rfl
  i175 := by kernel_rfl
  i210 := by kernel_rfl
  i212 := by kernel_rfl
  i232 := by kernel_rfl
  i233 := by kernel_rfl
  m15 := by kernel_rfl
  m16 := by kernel_rfl
  m17 := by kernel_rfl
  m18 := by kernel_rfl
  m19 := by kernel_rfl
  c0 := by kernel_rfl
  c2 := by kernel_rfl
  c3 := by kernel_rfl
  c4 := by kernel_rfl
  c5 := by kernel_rfl
  c9 := by kernel_rfl
  c20 := by kernel_rfl
  c21 := by kernel_rfl
  c37 := by kernel_rfl
  c46 := by kernel_rfl
  c51 := by kernel_rfl
  c53 := by kernel_rfl
  c75 := by kernel_rfl
  c80 := by kernel_rfl
  c85 := by kernel_rfl
  c127 := by kernel_rfl
  c143 := by kernel_rfl
  c145 := by kernel_rfl
  c167 := by kernel_rfl
  c168 := by kernel_rfl
  c171 := by kernel_rfl
  c173 := by kernel_rfl
  c175 := by kernel_rfl
  c210 := by kernel_rfl
  c212 := by kernel_rfl
  c213 := by kernel_rfl
  c232 := by kernel_rfl
  c233 := by kernel_rfl

end Go.Proofs
namespace Go.Kx.Ob
open Go.Proofs Go.Kx Go.RowKit Go.Kx.Js Go.Kx.Pr Go.Kx.Rt
set_option maxRecDepth 20000
set_option linter.unusedSimpArgs false
def ErrH (H : Hp) : Prop := ∀ g, (g = 3 ∨ g = 4) → ∃ te pe, H g 0 = some (.iface te pe)
theorem ErrH.mono {H H' : Hp} (h : H.Le H') (he : ErrH H) : ErrH H' := fun g hg => let ⟨te, pe, e⟩ := he g hg; ⟨te, pe, h _ _ _ e⟩
theorem parseInt (s : ByteArray) (hs : s.size ≤ 1000000) (H : Hp) (hv : ErrH H) :
    CallO Tryz.prog 108 [pv (.string s), pv (.int .i64 10), pv (.int .i64 64)] H [] fun e H' G' => (∃ (v : Int) (x : Value), e = .ret (.tu [.ce (.val (.int .i64 v)), .ce (.val x)]) ∧ ((Lib.atoiAll s.data.toList = .ok v ∧ x = .nilIface) ∨ ((∀ u, Lib.atoiAll s.data.toList ≠ .ok u) ∧ ∃ te pe, x = .iface te pe))) ∧ H' = H ∧ G' = [] := by
  refine (CallO.of_calls (args := [.string s, .int .i64 10, .int .i64 64]) (R := fun y => ∃ (v : Int) (x : Value), y = .tuple #[.int .i64 v, x] ∧ ((Lib.atoiAll s.data.toList = .ok v ∧ x = .nilIface) ∨ ((∀ u, Lib.atoiAll s.data.toList ≠ .ok u) ∧ ∃ te pe, x = .iface te pe))) fun w hg hin => ?_).mono ?_
  · have ht := Lib.parseIntB_64 s.data.toList
    cases h : Lib.atoiAll s.data.toList
    · rename_i v
      refine (Any.strconv_ParseInt_10_at64_ok Tryz.laysParse s (by omega) v (ht.trans h) w).mono fun e w' ⟨he, hw⟩ => ⟨_, he, ⟨v, _, rfl, .inl ⟨rfl, rfl⟩⟩, ?_⟩
      rcases hw with rfl | ⟨t, rfl⟩
      · exact grown_refl _
      · exact ⟨rfl, rfl, rfl, by rw [Lib.bytesWorld_size]; omega, fun j hj _ => Lib.bytesWorld_at_old w _ t j hj⟩
    · obtain ⟨te, pe, he⟩ := hv 3 (.inl rfl)
      refine (Any.strconv_ParseInt_10_at64_syntax Tryz.laysParse s (by omega) (ht.trans h) _ w (hin _ _ _ he) (.inr ⟨te, pe, rfl⟩)).mono fun e w' ⟨N, he, _, _, hb⟩ => ⟨_, he, ⟨_, _, rfl, .inr ⟨fun u e => (nomatch e), _, _, rfl⟩⟩, grown_of_below hb⟩
    · obtain ⟨te, pe, he⟩ := hv 4 (.inr rfl)
      refine (Any.strconv_ParseInt_10_at64_range Tryz.laysParse s (by omega) (ht.trans h) _ w (hin _ _ _ he) (.inr ⟨te, pe, rfl⟩)).mono fun e w' ⟨N, he, _, _, hb⟩ => ⟨_, he, ⟨_, _, rfl, .inr ⟨fun u e => (nomatch e), _, _, rfl⟩⟩, grown_of_below hb⟩
  · rintro e H' G' hle ⟨y, ⟨v, x, rfl, h⟩, rfl, rfl, rfl⟩
    exact ⟨⟨v, x, rfl, h⟩, rfl, rfl⟩
def intP (j : J) : Int × Bool :=
  if j.kind = 3 ∧ numericP j.text = true then
    match Lib.atoiAll j.text.data.toList with
    | .ok v => if v < -9007199254740992 ∨ v > 9007199254740992 then (0, false) else (v, true)
    | _ => (0, false)
  else (0, false)
theorem int_ (j : J) (hs : j.text.size ≤ 190000) (k : Int) (y : Bool) (t : ByteArray) (A : Option Addr) (n c : Nat) (B : Option Addr) (m d : Nat) (H : Hp) (hE : ErrH H) (hj : JAt H j [.int .i64 k, .bool y, .string t, .slice A n c, .slice B m d]) :
    CallO Tryz.prog 59 [agJ k y t A n c B m d] H [] fun e H' G' => e = .ret (.tu [.ce (.val (.int .i64 (intP j).1)), .ce (.val (.bool (intP j).2))]) ∧ H.Le H' ∧ G' = [] := by
  obtain ⟨rfl, rfl, rfl⟩ : k = j.kind ∧ y = j.yes ∧ t = j.text := by cases hj; exact ⟨rfl, rfl, rfl⟩
  unfold intP
  refine CallO.of_body tab Tryz.func59 rfl (nt := Tryz.f59.ntmps) rfl (by kernel_rfl) ?_
  (conv => whnf)
  refine br.of (fun h1 => ?_) (fun h1 => ?_) <;> (conv => whnf)
  · simp only [bne_iff_ne, ne_eq] at h1
    rw [if_neg (fun h => h1 h.1)]
    exact ⟨rfl, .refl _, rfl⟩
  simp only [bne_eq_false_iff_eq] at h1
  refine ⟨⟨_, Tryz.func99, rfl, by kernel_rfl⟩, CallS.use (numeric_ j.text hs H) [] rfl rfl trivial ?_⟩
  rintro e H2 G' hle ⟨rfl, rfl⟩
  cases hn : numericP j.text
  all_goals (conv => whnf)
  · rw [if_neg (by simp)]
    exact ⟨rfl, hle, rfl⟩
  rw [if_pos ⟨h1, rfl⟩]
  refine ⟨⟨_, Tryz.func108, rfl, by kernel_rfl⟩, CallS.use (parseInt j.text (by omega) H2 (hE.mono hle)) [] rfl rfl trivial ?_⟩
  rintro e H3 G' hle2 ⟨⟨v, x, rfl, hx⟩, rfl, rfl⟩
  rcases hx with ⟨hv, rfl⟩ | ⟨hv, te, pe, rfl⟩
  all_goals (conv => whnf)
  · rw [hv]
    refine br.of (fun h2 => ?_) (fun h2 => ?_) <;> (conv => whnf)
    · have h2 := of_decide_eq_true h2
      simp only [if_pos (show v < -9007199254740992 ∨ v > 9007199254740992 by omega)]
      exact ⟨trivial, hle, rfl⟩
    have h2 := of_decide_eq_false h2
    refine br.of (fun h3 => ?_) (fun h3 => ?_) <;> (conv => whnf)
    · have h3 := of_decide_eq_true h3
      simp only [if_pos (show v < -9007199254740992 ∨ v > 9007199254740992 by omega)]
      exact ⟨trivial, hle, rfl⟩
    have h3 := of_decide_eq_false h3
    simp only [if_neg (show ¬ (v < -9007199254740992 ∨ v > 9007199254740992) by omega)]
    exact ⟨trivial, hle, rfl⟩
  · cases hh : Lib.atoiAll j.text.data.toList with
    | ok u => exact absurd hh (hv u)
    | _ => exact ⟨rfl, hle, rfl⟩
end Go.Kx.Ob
namespace Go.Proofs.YtfchdibbjaeocaaGreatDoor.RowLaid
open Go.ChangeShapes Go.WideShapes Go.ChangeAt Go.RowKit Go.Kx Go.Proofs

def laid : List (String × DataW Unit) := [("math/bits.deBruijn32tab", Rows.laid_math_bits_deBruijn32tab), ("math/bits.deBruijn64tab", Rows.laid_math_bits_deBruijn64tab), ("internal/strconv.uint64pow10", Rows.laid_internal_strconv_uint64pow10), ("unicode/utf8.acceptRanges", Rows.laid_unicode_utf8_acceptRanges), ("strconv.ErrRange", Rows.laid_strconv_ErrRange), ("strconv.ErrSyntax", Rows.laid_strconv_ErrSyntax), ("unicode/utf8.first", Rows.laid_unicode_utf8_first)]
theorem own : ownKnob Tryz.prog.godebug = none := by kernel_rfl
theorem laidOut : laidOutB Tryz.prog = true := by kernel_rfl
theorem star : "*" ++ "errors.errorString" = "*errors.errorString" := by decide
theorem rowE (u : TypeId) (h : Tryz.prog.typeName? 3 u = some "*errors.errorString") : u = 271 :=
  typeName_ptr_named (nm := "errors.errorString") (by rw [star]; kernel_rfl) (by kernel_rfl) (by decide) u (by rw [star]; exact h)
theorem gP : Tryz.prog.globalNamed "internal/strconv.uint64pow10" = some 5 := by kernel_rfl
theorem gS : Tryz.prog.globalNamed "strconv.ErrSyntax" = some 3 := by kernel_rfl
theorem gR : Tryz.prog.globalNamed "strconv.ErrRange" = some 4 := by kernel_rfl
theorem one {W : World} (h : laidMetH Tryz.prog laid W) (nm : String) (d : DataW Unit) (e : laid.filter (fun x => x.1 == nm) = [(nm, d)]) (hp : d.handleName?.isNone = true) : laidMet Tryz.prog [(nm, d)] W := by
  have h1 := h.filter fun x => x.1 == nm
  rw [e, Go.MakeChecks.laidMetH_plain _ _ _ (by simp [hp])] at h1
  exact h1
theorem gd {W : World} (h : laidMetH Tryz.prog laid W) : Gd W fun _ => False := by
  have h1 := one h "internal/strconv.uint64pow10" Rows.laid_internal_strconv_uint64pow10 (by kernel_rfl) (by kernel_rfl)
  have h2 : laidMet Tryz.prog [("internal/strconv.uint64pow10", Lib.tabData .u64 Lib.pow10Tab)] W := by
    rw [show (Lib.tabData .u64 Lib.pow10Tab : DataW Unit) = Rows.laid_internal_strconv_uint64pow10 by kernel_rfl]
    exact h1
  have h3 : W.var? Tryz.prog "internal/strconv.uint64pow10" = some (Lib.pow10Tab.map fun z => Value.int .u64 z).toArray := Lib.tabIs_of_head gP (by kernel_rfl) Tryz.underlying256 Tryz.underlying211 (by kernel_rfl) (by kernel_rfl) h2
  unfold World.var? at h3
  rw [gP] at h3
  simp only [Option.bind_some] at h3
  intro g cs hg
  refine ⟨?_, fun hf => hf⟩
  unfold Gl at hg
  split at hg
  · rename_i hb
    subst hb
    injection hg with hg
    subst hg
    split at h3
    · rename_i cs t z hh
      injection h3 with h3
      subst h3
      exact ⟨t, z, by rw [hh]; rfl⟩
    · cases h3
  · cases hg
theorem errH {W : World} (h : laidMetH Tryz.prog laid W) : Go.Kx.Ob.ErrH (heapOf W) := by
  rintro g (rfl | rfl)
  · have h1 := one h "strconv.ErrSyntax" Rows.laid_strconv_ErrSyntax (by kernel_rfl) (by kernel_rfl)
    obtain ⟨a1, s1, hv1, hc1, hs1, hz1⟩ := laid_sentinel h1 gS (by kernel_rfl) (ti := 138) Tryz.underlying138 rowE Tryz.underlying271 Tryz.underlying273 rfl rfl Tryz.underlying9 (by kernel_rfl) (by kernel_rfl)
    exact ⟨_, _, by simpa [heapOf] using World.var?_cell gS hv1 0⟩
  · have h1 := one h "strconv.ErrRange" Rows.laid_strconv_ErrRange (by kernel_rfl) (by kernel_rfl)
    obtain ⟨a1, s1, hv1, hc1, hs1, hz1⟩ := laid_sentinel h1 gR (by kernel_rfl) (ti := 138) Tryz.underlying138 rowE Tryz.underlying271 Tryz.underlying273 rfl rfl Tryz.underlying9 (by kernel_rfl) (by kernel_rfl)
    exact ⟨_, _, by simpa [heapOf] using World.var?_cell gR hv1 0⟩
noncomputable def low (os : Os) : Nat := (World.holding Tryz.prog os ⟨#[], #[], []⟩).heap.size
def rangeS : ByteArray := ⟨#[118, 97, 108, 117, 101, 32, 111, 117, 116, 32, 111, 102, 32, 114, 97, 110, 103, 101]⟩
def syntaxS : ByteArray := ⟨#[105, 110, 118, 97, 108, 105, 100, 32, 115, 121, 110, 116, 97, 120]⟩
def litsOf : DataW Unit → Array Value
  | .agg l => (l.flatMap fun
    | .lit (.int k v) => [Value.int k v]
    | .agg m => m.filterMap fun
      | .lit (.int k v) => some (Value.int k v)
      | _ => none
    | _ => []).toArray
  | _ => #[]
noncomputable def laidWorld (os : Os) : World :=
  let w0 := World.holding Tryz.prog os ⟨#[.cells #[.string rangeS] 273, .cells #[.string syntaxS] 273], #[], []⟩
  { w0 with heap := ((((((w0.heap.modify 6 fun
      | .cells _ t z => .cells (litsOf Rows.laid_math_bits_deBruijn32tab) t z
      | o => o).modify 7 fun
      | .cells _ t z => .cells (litsOf Rows.laid_math_bits_deBruijn64tab) t z
      | o => o).modify 5 fun
      | .cells _ t z => .cells (litsOf Rows.laid_internal_strconv_uint64pow10) t z
      | o => o).modify 2 fun
      | .cells _ t z => .cells (litsOf Rows.laid_unicode_utf8_acceptRanges) t z
      | o => o).modify 1 fun
      | .cells _ t z => .cells (litsOf Rows.laid_unicode_utf8_first) t z
      | o => o).modify 4 fun
      | .cells _ t z => .cells #[.iface 271 (.pointer (some ⟨low os, 0, Option.none⟩))] t z
      | o => o).modify 3 fun
      | .cells _ t z => .cells #[.iface 271 (.pointer (some ⟨low os + 1, 0, Option.none⟩))] t z
      | o => o }
theorem laidWorld_met (os : Os) (args : Array Value) : laidMetH Tryz.prog laid ((laidWorld os).forCall (fun _ _ => 0) ⟨#[], args, []⟩).memory := by
  rw [Go.MakeChecks.laidMetH_plain _ _ _ (by kernel_rfl)]
  exact laidMet_of_run' 8 (by kernel_rfl) (by kernel_rfl)
end Go.Proofs.YtfchdibbjaeocaaGreatDoor.RowLaid
namespace Go.Kx.Sha
open Go.Proofs Go.Kx
set_option maxRecDepth 20000

def T : Tab := [(165, { k := TK.ptr 199, agg := false, size := 1, bytes := 8, zero := [Z.p] }), (197, { k := TK.ar 8 196 1, agg := true, size := 8, bytes := 32, zero := [Z.i IntKind.u32, Z.i IntKind.u32, Z.i IntKind.u32, Z.i IntKind.u32, Z.i IntKind.u32, Z.i IntKind.u32, Z.i IntKind.u32, Z.i IntKind.u32] }), (199, { k := TK.st [(0, 197, 8), (8, 55, 1), (9, 3, 1)], agg := true, size := 10, bytes := 64, zero := [Z.i IntKind.u32, Z.i IntKind.u32, Z.i IntKind.u32, Z.i IntKind.u32, Z.i IntKind.u32, Z.i IntKind.u32, Z.i IntKind.u32, Z.i IntKind.u32, Z.sl, Z.i IntKind.i64] }), (55, { k := TK.slice 5, agg := false, size := 1, bytes := 24, zero := [Z.sl] }), (3, { k := TK.int IntKind.i64, agg := false, size := 1, bytes := 8, zero := [Z.i IntKind.i64] }), (4, { k := TK.bool, agg := false, size := 1, bytes := 1, zero := [Z.b] }), (164, { k := TK.slice 55, agg := false, size := 1, bytes := 24, zero := [Z.sl] }), (5, { k := TK.int IntKind.u8, agg := false, size := 1, bytes := 1, zero := [Z.i IntKind.u8] }), (196, { k := TK.int IntKind.u32, agg := false, size := 1, bytes := 4, zero := [Z.i IntKind.u32] }), (232, { k := TK.ar 64 196 1, agg := true, size := 64, bytes := 256, zero := [Z.i IntKind.u32, Z.i IntKind.u32, Z.i IntKind.u32, Z.i IntKind.u32, Z.i IntKind.u32, Z.i IntKind.u32, Z.i IntKind.u32, Z.i IntKind.u32, Z.i IntKind.u32, Z.i IntKind.u32, Z.i IntKind.u32, Z.i IntKind.u32, Z.i IntKind.u32, Z.i IntKind.u32, Z.i IntKind.u32, Z.i IntKind.u32, Z.i IntKind.u32, Z.i IntKind.u32, Z.i IntKind.u32, Z.i IntKind.u32, Z.i IntKind.u32, Z.i IntKind.u32, Z.i IntKind.u32, Z.i IntKind.u32, Z.i IntKind.u32, Z.i IntKind.u32, Z.i IntKind.u32, Z.i IntKind.u32, Z.i IntKind.u32, Z.i IntKind.u32, Z.i IntKind.u32, Z.i IntKind.u32, Z.i IntKind.u32, Z.i IntKind.u32, Z.i IntKind.u32, Z.i IntKind.u32, Z.i IntKind.u32, Z.i IntKind.u32, Z.i IntKind.u32, Z.i IntKind.u32, Z.i IntKind.u32, Z.i IntKind.u32, Z.i IntKind.u32, Z.i IntKind.u32, Z.i IntKind.u32, Z.i IntKind.u32, Z.i IntKind.u32, Z.i IntKind.u32, Z.i IntKind.u32, Z.i IntKind.u32, Z.i IntKind.u32, Z.i IntKind.u32, Z.i IntKind.u32, Z.i IntKind.u32, Z.i IntKind.u32, Z.i IntKind.u32, Z.i IntKind.u32, Z.i IntKind.u32, Z.i IntKind.u32, Z.i IntKind.u32, Z.i IntKind.u32, Z.i IntKind.u32, Z.i IntKind.u32, Z.i IntKind.u32] }), (186, { k := TK.int IntKind.u64, agg := false, size := 1, bytes := 8, zero := [Z.i IntKind.u64] })]
set_option maxRecDepth 100000 in
theorem tab : TabOk Tryz.prog T := tabOk_mk (ts := [165, 197, 199, 55, 3, 4, 164, 5, 196, 232, 186]) (by kernel_rfl)
theorem mixed : Tryz.prog.follows .mixedOrders = true := by kernel_rfl


def u (b : BitVec 32) : Int := (b.toNat : Int)
def uV (b : BitVec 32) : SV := pv (.int .u32 (u b))
theorem u_lt (b : BitVec 32) : 0 ≤ u b ∧ u b < 4294967296 := by unfold u; have := b.isLt; omega
theorem wrap32 {x : Int} (h : 0 ≤ x) (h' : x < 4294967296) : IntKind.u32.wrap x = x := by
  simp only [IntKind.wrap, IntKind.bits, IntKind.signed]; simp; omega
theorem wrap32' (x : Int) : IntKind.u32.wrap x = x % 4294967296 := by
  simp [IntKind.wrap, IntKind.bits, IntKind.signed]
theorem ofInt_u (b : BitVec 32) : BitVec.ofInt IntKind.u32.bits (u b) = b := by
  show BitVec.ofInt 32 (u b) = b
  unfold u; simp
theorem u_add (a b : BitVec 32) : IntKind.u32.wrap (u a + u b) = u (a + b) := by
  rw [wrap32']; unfold u; rw [BitVec.toNat_add]; omega
theorem u_xor (a b : BitVec 32) : IntKind.u32.wrap ((BitVec.ofInt IntKind.u32.bits (u a) ^^^ BitVec.ofInt IntKind.u32.bits (u b)).toNat : Int) = u (a ^^^ b) := by
  rw [ofInt_u, ofInt_u]; exact wrap32 (u_lt _).1 (u_lt (a ^^^ b)).2
theorem u_and (a b : BitVec 32) : IntKind.u32.wrap ((BitVec.ofInt IntKind.u32.bits (u a) &&& BitVec.ofInt IntKind.u32.bits (u b)).toNat : Int) = u (a &&& b) := by
  rw [ofInt_u, ofInt_u]; exact wrap32 (u_lt _).1 (u_lt (a &&& b)).2
theorem u_or (a b : BitVec 32) : IntKind.u32.wrap ((BitVec.ofInt IntKind.u32.bits (u a) ||| BitVec.ofInt IntKind.u32.bits (u b)).toNat : Int) = u (a ||| b) := by
  rw [ofInt_u, ofInt_u]; exact wrap32 (u_lt _).1 (u_lt (a ||| b)).2
theorem u_shl (a : BitVec 32) (k : Nat) (hk : k < 32) : IntKind.u32.wrap (u a * 2 ^ min k IntKind.u32.bits) = u (a <<< k) := by
  rw [wrap32', show min k IntKind.u32.bits = k from Nat.min_eq_left (by show k ≤ 32; omega)]
  unfold u
  rw [BitVec.toNat_shiftLeft, Nat.shiftLeft_eq, Int.natCast_emod, Int.natCast_mul, Int.natCast_pow]
  rfl
theorem u_shr (a : BitVec 32) (k : Nat) (hk : k < 32) : (u a).fdiv (2 ^ min k IntKind.u32.bits) = u (a >>> k) := by
  rw [show min k IntKind.u32.bits = k from Nat.min_eq_left (by show k ≤ 32; omega)]
  unfold u
  rw [BitVec.toNat_ushiftRight, Nat.shiftRight_eq_div_pow, Int.fdiv_eq_ediv_of_nonneg _ (by exact Int.le_of_lt (Int.pow_pos (by decide))), Int.natCast_ediv, Int.natCast_pow]
  rfl
theorem lefts : ∀ n : Fin 32, n.val ≠ 0 → IntKind.u64.wrap ((BitVec.ofInt IntKind.u64.bits (IntKind.u64.wrap (IntKind.i64.wrap (-(n.val : Int)))) &&& BitVec.ofInt IntKind.u64.bits 31).toNat : Int) = 32 - (n.val : Int) := by decide
theorem rot (x : BitVec 32) (n : Nat) (h1 : 1 ≤ n) (h2 : n ≤ 31) (H : Hp) : CallO Tryz.prog 238 [uV x, pv (.int .i64 (IntKind.i64.wrap (-(n : Int))))] H [] fun e H' G' => e = .ret (uV (x.rotateRight n)) ∧ H' = H ∧ G' = [] := by
  refine CallO.of_body tab Tryz.func238 rfl (nt := Tryz.f238.ntmps) rfl (by kernel_rfl) ?_
  conv => whnf
  have hl := lefts ⟨n, by omega⟩ (by show n ≠ 0; omega)
  simp only at hl
  rw [hl]
  refine ⟨by omega, ?_⟩
  conv => whnf
  have hw : IntKind.u64.wrap (32 - (32 - (n : Int))) = (n : Int) := by simp only [IntKind.wrap, IntKind.bits, IntKind.signed]; simp; omega
  rw [hw]
  refine ⟨by omega, ?_⟩
  conv => whnf
  have e1 : (32 - (n : Int)).toNat = 32 - n := by omega
  rw [e1, Int.toNat_natCast]
  refine ⟨?_, rfl, rfl⟩
  rw [u_shl x (32 - n) (by omega), u_shr x n (by omega), u_or]
  have e2 : x.rotateRight n = x <<< (32 - n) ||| x >>> n := by
    rw [BitVec.rotateRight_def, Nat.mod_eq_of_lt (by omega), BitVec.or_comm]
  rw [e2]; rfl
theorem right (x : BitVec 32) (n : Nat) (h1 : 1 ≤ n) (h2 : n ≤ 31) (H : Hp) : CallO Tryz.prog 202 [uV x, pv (.int .i64 (n : Int))] H [] fun e H' G' => e = .ret (uV (x.rotateRight n)) ∧ H' = H ∧ G' = [] := by
  refine CallO.of_body tab Tryz.func202 rfl (nt := Tryz.f202.ntmps) rfl (by kernel_rfl) ?_
  conv => whnf
  rw [Int.zero_sub]
  refine ⟨⟨_, Tryz.func238, rfl, by kernel_rfl⟩, CallS.use (rot x n h1 h2 H) [] rfl rfl trivial ?_⟩
  rintro e H' G' hle ⟨rfl, rfl, rfl⟩
  conv => whnf
  exact ⟨rfl, rfl, rfl⟩
end Go.Kx.Sha
namespace Go.Kx.Sha
open Go.Proofs Go.Kx
set_option maxRecDepth 20000

def kTab : List (BitVec 32) := [1116352408, 1899447441, 3049323471, 3921009573, 961987163, 1508970993, 2453635748, 2870763221, 3624381080, 310598401, 607225278, 1426881987, 1925078388, 2162078206, 2614888103, 3248222580, 3835390401, 4022224774, 264347078, 604807628, 770255983, 1249150122, 1555081692, 1996064986, 2554220882, 2821834349, 2952996808, 3210313671, 3336571891, 3584528711, 113926993, 338241895, 666307205, 773529912, 1294757372, 1396182291, 1695183700, 1986661051, 2177026350, 2456956037, 2730485921, 2820302411, 3259730800, 3345764771, 3516065817, 3600352804, 4094571909, 275423344, 430227734, 506948616, 659060556, 883997877, 958139571, 1322822218, 1537002063, 1747873779, 1955562222, 2024104815, 2227730452, 2361852424, 2428436474, 2756734187, 3204031479, 3329325298]
def kAt (t : Nat) : BitVec 32 := kTab.getD t 0
theorem kTab_get (t : Nat) (ht : t < 64) (i : Nat) (hi : i = t) : (kTab.map fun k => SC.val (.int .u32 (u k)))[i]? = some (.val (.int .u32 (u (kAt t)))) := by
  subst hi
  have hl : kTab.length = 64 := rfl
  rw [List.getElem?_map, kAt, List.getD_eq_getElem?_getD, List.getElem?_eq_getElem (by omega)]
  rfl
theorem kOf (t : Nat) (ht : t < 64) (H : Hp) : CallO Tryz.prog 203 [pv (.int .i64 (t : Int))] H [] fun e H' G' => e = .ret (uV (kAt t)) ∧ H' = H ∧ G' = [] := by
  refine CallO.of_body tab Tryz.func203 rfl (nt := Tryz.f203.ntmps) rfl (by kernel_rfl) ?_
  conv => whnf
  refine ⟨⟨by omega, by omega⟩, _, kTab_get t ht _ (by simp), ?_⟩
  conv => whnf
  exact ⟨rfl, rfl, rfl⟩
end Go.Kx.Sha
namespace Go.Kx.Sha
open Go.Proofs Go.Kx
set_option maxRecDepth 20000

def by32 (bs : List UInt8) (i : Nat) : BitVec 32 := BitVec.ofNat 32 (byteN bs i)
def word (bs : List UInt8) (j : Nat) : BitVec 32 := by32 bs (4 * j) <<< 24 ||| by32 bs (4 * j + 1) <<< 16 ||| by32 bs (4 * j + 2) <<< 8 ||| by32 bs (4 * j + 3)
def sg0 (x : BitVec 32) : BitVec 32 := x.rotateRight 7 ^^^ x.rotateRight 18 ^^^ x >>> 3
def sg1 (y : BitVec 32) : BitVec 32 := y.rotateRight 17 ^^^ y.rotateRight 19 ^^^ y >>> 10
def schedN (bs : List UInt8) : Nat → List (BitVec 32)
  | 0 => []
  | t + 1 => schedN bs t ++ [if t < 16 then word bs t else sg1 ((schedN bs t).getD (t - 2) 0) + (schedN bs t).getD (t - 7) 0 + sg0 ((schedN bs t).getD (t - 15) 0) + (schedN bs t).getD (t - 16) 0]
theorem schedN_length (bs : List UInt8) : ∀ t, (schedN bs t).length = t
  | 0 => rfl
  | t + 1 => by simp [schedN, schedN_length bs t]
def cellW (b : BitVec 32) : Value := .int .u32 (u b)
def wCells (bs : List UInt8) (t : Nat) : List Value := (schedN bs t).map cellW ++ List.replicate (64 - t) (.int .u32 0)
theorem u_by (bs : List UInt8) (i : Nat) : IntKind.u32.wrap (byteN bs i : Int) = u (by32 bs i) := by
  have h : byteN bs i < 256 := by unfold byteN; exact (bs.getD i 0).toNat_lt
  rw [wrap32 (by omega) (by omega)]
  unfold u by32
  rw [BitVec.toNat_ofNat, Nat.mod_eq_of_lt (by omega)]

theorem wCells_length (bs : List UInt8) {t : Nat} (ht : t ≤ 64) : (wCells bs t).length = 64 := by simp [wCells, schedN_length]; omega
theorem wCells_succ (bs : List UInt8) {t off : Nat} (ht : t < 64) (ho : off = t) {w : BitVec 32} (hw : schedN bs (t + 1) = schedN bs t ++ [w]) {x : Int} (hx : x = u w) : splice (wCells bs t) off [.int .u32 x] = wCells bs (t + 1) := by
  subst ho hx
  unfold splice wCells
  rw [hw, List.take_append_of_le_length (by simp [schedN_length]), List.take_of_length_le (by simp [schedN_length])]
  rw [List.drop_append, List.drop_of_length_le (by simp [schedN_length])]
  rw [show off + [Value.int IntKind.u32 (u w)].length - (List.map cellW (schedN bs off)).length = 1 by simp [schedN_length], List.drop_replicate, show 64 - off - 1 = 64 - (off + 1) by omega, List.map_append]
  rfl
theorem wget {bs : List UInt8} {t i off : Nat} (hi : i < t) (ho : off = i) : (wCells bs t)[off]? = some (.int .u32 (u ((schedN bs t).getD i 0))) := by
  subst ho
  have hl := schedN_length bs t
  unfold wCells
  rw [List.getElem?_append_left (by simp [hl]; exact hi), List.getElem?_map, List.getElem?_eq_getElem (by omega), List.getD_eq_getElem?_getD, List.getElem?_eq_getElem (by omega)]
  rfl
theorem pget {bs : List UInt8} {t i off : Nat} (hi : i < t) (ho : off = i) : ((schedN bs t).map cellW)[off]? = some (.int .u32 (u ((schedN bs t).getD i 0))) := by
  subst ho
  have hl := schedN_length bs t
  rw [List.getElem?_map, List.getElem?_eq_getElem (by omega), List.getD_eq_getElem?_getD, List.getElem?_eq_getElem (by omega)]
  rfl
theorem word_eq (bs : List UInt8) (t : Nat) : IntKind.u32.wrap ((BitVec.ofInt IntKind.u32.bits (IntKind.u32.wrap ((BitVec.ofInt IntKind.u32.bits (IntKind.u32.wrap ((BitVec.ofInt IntKind.u32.bits (IntKind.u32.wrap (u (by32 bs (4 * t)) * 2 ^ min (Int.toNat 24) IntKind.u32.bits)) |||
      BitVec.ofInt IntKind.u32.bits (IntKind.u32.wrap (u (by32 bs (4 * t + 1)) * 2 ^ min (Int.toNat 16) IntKind.u32.bits))).toNat : Int)) ||| BitVec.ofInt IntKind.u32.bits (IntKind.u32.wrap (u (by32 bs (4 * t + 2)) * 2 ^ min (Int.toNat 8) IntKind.u32.bits))).toNat : Int)) |||
      BitVec.ofInt IntKind.u32.bits (u (by32 bs (4 * t + 3)))).toNat : Int) = u (word bs t) := by
  rw [show Int.toNat 24 = 24 from rfl, show Int.toNat 16 = 16 from rfl, show Int.toNat 8 = 8 from rfl, u_shl _ 24 (by decide), u_shl _ 16 (by decide), u_shl _ 8 (by decide), u_or, u_or, u_or]
  rfl
theorem sig_eq (x2 x7 x15 x16 : BitVec 32) : IntKind.u32.wrap (IntKind.u32.wrap (IntKind.u32.wrap (IntKind.u32.wrap ((BitVec.ofInt IntKind.u32.bits (IntKind.u32.wrap ((BitVec.ofInt IntKind.u32.bits (u (x2.rotateRight 17)) ^^^ BitVec.ofInt IntKind.u32.bits (u (x2.rotateRight 19))).toNat : Int)) ^^^
      BitVec.ofInt IntKind.u32.bits ((u x2).fdiv (2 ^ min (Int.toNat 10) IntKind.u32.bits))).toNat : Int) + u x7) + IntKind.u32.wrap ((BitVec.ofInt IntKind.u32.bits (IntKind.u32.wrap ((BitVec.ofInt IntKind.u32.bits (u (x15.rotateRight 7)) ^^^ BitVec.ofInt IntKind.u32.bits (u (x15.rotateRight 18))).toNat : Int)) ^^^
      BitVec.ofInt IntKind.u32.bits ((u x15).fdiv (2 ^ min (Int.toNat 3) IntKind.u32.bits))).toNat : Int)) + u x16) = u (sg1 x2 + x7 + sg0 x15 + x16) := by
  rw [show Int.toNat 10 = 10 from rfl, show Int.toNat 3 = 3 from rfl, u_shr _ 10 (by decide), u_shr _ 3 (by decide)]
  simp only [u_xor, u_add]
  rfl
def lit64 {α : Type} (f : Nat → α) : List α := [f 0, f 1, f 2, f 3, f 4, f 5, f 6, f 7, f 8, f 9, f 10, f 11, f 12, f 13, f 14, f 15, f 16, f 17, f 18, f 19, f 20, f 21, f 22, f 23, f 24, f 25, f 26, f 27, f 28, f 29, f 30, f 31, f 32, f 33, f 34, f 35, f 36, f 37, f 38, f 39, f 40, f 41, f 42, f 43, f 44, f 45, f 46, f 47, f 48, f 49, f 50, f 51, f 52, f 53, f 54, f 55, f 56, f 57, f 58, f 59, f 60, f 61, f 62, f 63]
theorem lit64_eq {α : Type} (f : Nat → α) : lit64 f = (List.range 64).map f := rfl
theorem lit64_get {α : Type} (f : Nat → α) {j : Nat} {x : α} (h : (lit64 f)[j]? = some x) : j < 64 ∧ x = f j := by
  rw [lit64_eq] at h
  have hj : j < 64 := by have := (List.getElem?_eq_some_iff.1 h).1; simpa using this
  rw [List.getElem?_map, List.getElem?_range hj] at h
  exact ⟨hj, (Option.some.inj h).symm⟩
def wAt (bs : List UInt8) (i : Nat) : BitVec 32 := (schedN bs 64).getD i 0
theorem schedule (n : Nat) (bs : List UInt8) (hn : 64 ≤ n) (hl : bs.length = n) (H : Hp) : CallO Tryz.prog 201 [.si (.ce (.self 0))] H [.row 5 1 n (bCells bs)] fun e H' G' =>
    e = .ret (.si (.ag (lit64 fun i => SC.val (cellW (wAt bs i))))) ∧ H' = H ∧ G' = [.row 5 1 n (bCells bs)] := by
  refine CallO.of_body tab Tryz.func201 rfl (nt := Tryz.f201.ntmps) rfl (by kernel_rfl) ?_
  conv => whnf
  refine WS.loop (fun m F H2 G => ∃ t : Nat, t ≤ 64 ∧ m = 64 - t ∧ F = [(0, .si (.ce (.self 0))), (2, .si (.ce (.ptr 1 0))), (3, .si (.ce (.ptr 2 0))), (7, pv (.int .i64 t))] ∧ H2 = H ∧
      G = [.row 5 1 n (bCells bs), .arr 232 (List.replicate 64 (.int .u32 0)), .arr 232 (wCells bs t)]) 65
    ⟨64, by omega, _, _, [0, 1, 2], ⟨0, by omega, rfl, rfl, rfl, rfl⟩, rfl, ⟨rfl, .inr rfl, .inr rfl, trivial⟩, rfl, rfl, rfl, rfl, trivial⟩ ?_
  rintro m F H2 G hle2 ⟨t, h2, rfl, rfl, rfl, rfl⟩
  refine codeL.go tab ?_
  conv => whnf
  refine br.of (fun h1 => ?_) (fun h1 => ?_) <;> conv => whnf
  · simp only [decide_eq_true_eq] at h1
    refine br.of (fun h3 => ?_) (fun h3 => ?_) <;> conv => whnf
    · simp only [decide_eq_true_eq] at h3
      refine WS.drawH tab mixed (.take 0 (.take 1 (.take 2 (.take 3 (.take 4 (.take 5 (.take 6 (.take 7 (.take 8 (.take 9 (.take 10 (.take 11 (.take 12 (.take 13 (.take 14 (.take 15 (.take 16 (.take 17 (.take 18 (.take 19 (.take 20 (.take 21 (.take 22 (.take 23 (.take 24 (.take 25 (.take 26 (.take 27 (.take 28 (.take 29 (.take 30 (.take 31 (.take 32 (.take 33 (.take 34 (.alt 35 .done .no)))))))))))))))))))))))))))))))))))) (by kernel_rfl) [.row 5 1 n (bCells bs), .dead, .dead] ⟨rfl, trivial, trivial, trivial⟩ rfl ?_
      conv => whnf
      have q0 : IntKind.i64.wrap (4 * (t : Int)) = ((4 * t : Nat) : Int) := by rw [wrap64 (by omega) (by omega)]; omega
      have q1 : IntKind.i64.wrap (((4 * t : Nat) : Int) + 1) = ((4 * t + 1 : Nat) : Int) := by rw [wrap64 (by omega) (by omega)]; omega
      have q2 : IntKind.i64.wrap (((4 * t : Nat) : Int) + 2) = ((4 * t + 2 : Nat) : Int) := by rw [wrap64 (by omega) (by omega)]; omega
      have q3 : IntKind.i64.wrap (((4 * t : Nat) : Int) + 3) = ((4 * t + 3 : Nat) : Int) := by rw [wrap64 (by omega) (by omega)]; omega
      rw [q0]
      refine ⟨⟨by omega, by omega⟩, ?_⟩
      conv => whnf
      refine ⟨_, bget (i := 4 * t) (by omega) (by simp; omega), ?_⟩
      conv => whnf
      rw [u_by]
      refine ⟨by decide, ?_⟩
      conv => whnf
      rw [q0, q1]
      refine ⟨⟨by omega, by omega⟩, ?_⟩
      conv => whnf
      refine ⟨_, bget (i := 4 * t + 1) (by omega) (by simp; omega), ?_⟩
      conv => whnf
      rw [u_by]
      refine ⟨by decide, ?_⟩
      conv => whnf
      rw [q0, q2]
      refine ⟨⟨by omega, by omega⟩, ?_⟩
      conv => whnf
      refine ⟨_, bget (i := 4 * t + 2) (by omega) (by simp; omega), ?_⟩
      conv => whnf
      rw [u_by]
      refine ⟨by decide, ?_⟩
      conv => whnf
      rw [q0, q3]
      refine ⟨⟨by omega, by omega⟩, ?_⟩
      conv => whnf
      refine ⟨_, bget (i := 4 * t + 3) (by omega) (by simp; omega), ?_⟩
      conv => whnf
      rw [u_by]
      refine ⟨⟨by omega, by omega⟩, ?_⟩
      conv => whnf
      refine ⟨⟨?_, ?_⟩, trivial⟩
      rotate_left
      · conv => whnf
        refine ⟨⟨rfl, trivial, trivial, trivial⟩, ?_⟩
        conv => whnf
        rw [wrap64 (x := (t : Int) + 1) (by omega) (by omega)]
        refine ⟨64 - (t + 1), by omega, _, _, [0, 1, 2], ⟨t + 1, by omega, rfl, rfl, rfl, rfl⟩, rfl, ⟨rfl, .inl rfl, .inl ?_, trivial⟩, rfl, rfl, rfl, rfl, trivial⟩
        have hw : schedN bs (t + 1) = schedN bs t ++ [word bs t] := by
          show schedN bs t ++ [if t < 16 then _ else _] = _
          rw [if_pos (by omega)]
        rw [wCells_succ bs (by omega) (by simp) hw (word_eq bs t)]
      · rw [wCells_length bs h2]
        show 0 + (t : Int).toNat * 1 + 1 ≤ 64
        omega
    · simp only [decide_eq_false_iff_not] at h3
      refine WS.drawH tab mixed (.take 0 (.take 1 (.take 2 (.take 3 (.take 4 (.take 5 (.take 6 (.take 7 (.take 8 (.take 9 .done)))))))))) (by kernel_rfl) [.dead, .dead, .arr 232 (wCells bs t)] ⟨trivial, trivial, rfl, trivial⟩ rfl ?_
      conv => whnf
      have q15 : IntKind.i64.wrap ((t : Int) - 15) = ((t - 15 : Nat) : Int) := by rw [wrap64 (by omega) (by omega)]; omega
      have q2 : IntKind.i64.wrap ((t : Int) - 2) = ((t - 2 : Nat) : Int) := by rw [wrap64 (by omega) (by omega)]; omega
      have q7 : IntKind.i64.wrap ((t : Int) - 7) = ((t - 7 : Nat) : Int) := by rw [wrap64 (by omega) (by omega)]; omega
      have q16 : IntKind.i64.wrap ((t : Int) - 16) = ((t - 16 : Nat) : Int) := by rw [wrap64 (by omega) (by omega)]; omega
      rw [q15]
      refine ⟨⟨by omega, by omega⟩, ?_⟩
      conv => whnf
      refine ⟨_, wget (i := t - 15) (by omega) (by simp), ?_⟩
      conv => whnf
      rw [q2]
      refine ⟨⟨by omega, by omega⟩, ?_⟩
      conv => whnf
      refine ⟨_, wget (i := t - 2) (by omega) (by simp), ?_⟩
      conv => whnf
      refine WS.drawH tab mixed (.take 0 (.take 1 (.take 3 (.take 6 (.take 7 (.take 9 (.take 10 (.take 11 (.take 12 (.take 14 (.take 16 (.take 19 (.take 20 (.take 23 (.take 24 (.take 25 (.take 26 (.alt 2 (.alt 4 (.take 5 (.take 8 (.take 13 (.alt 15 (.alt 17 (.take 18 (.take 21 (.take 22 (.take 27 (.take 28 (.alt 29 .done .no)))))) .no) .no)))) .no) .no)))))))))))))))))) (by kernel_rfl) [.dead, .dead, .pre 232 ((schedN bs t).map cellW)] ⟨trivial, trivial, ⟨_, rfl, by unfold wCells; exact List.take_left⟩, trivial⟩ rfl ?_
      conv => whnf
      refine ⟨by decide, ?_⟩
      conv => whnf
      rw [q7]
      refine ⟨⟨by omega, by omega⟩, ?_⟩
      conv => whnf
      refine ⟨_, pget (i := t - 7) (by omega) (by simp), ?_⟩
      conv => whnf
      refine ⟨by decide, ?_⟩
      conv => whnf
      rw [q16]
      refine ⟨⟨by omega, by omega⟩, ?_⟩
      conv => whnf
      refine ⟨_, pget (i := t - 16) (by omega) (by simp), ?_⟩
      conv => whnf
      generalize hx2 : (schedN bs t).getD (t - 2) 0 = x2
      generalize hx7 : (schedN bs t).getD (t - 7) 0 = x7
      generalize hx15 : (schedN bs t).getD (t - 15) 0 = x15
      generalize hx16 : (schedN bs t).getD (t - 16) 0 = x16
      refine ⟨⟨⟨_, Tryz.func202, rfl, by kernel_rfl⟩, CallS.use (right x2 17 (by decide) (by decide) H2) [] rfl rfl trivial ?_⟩, trivial⟩
      rintro e H3 G' hle3 ⟨rfl, rfl, rfl⟩
      conv => whnf
      refine ⟨⟨trivial, trivial, ⟨_, rfl, by unfold wCells; exact List.take_left⟩, trivial⟩, ?_⟩
      conv => whnf
      refine ⟨⟨⟨_, Tryz.func202, rfl, by kernel_rfl⟩, CallS.use (right x2 19 (by decide) (by decide) H3) [] rfl rfl trivial ?_⟩, trivial⟩
      rintro e H4 G' hle4 ⟨rfl, rfl, rfl⟩
      conv => whnf
      refine ⟨⟨trivial, trivial, ⟨_, rfl, by unfold wCells; exact List.take_left⟩, trivial⟩, ?_⟩
      conv => whnf
      refine ⟨⟨⟨_, Tryz.func202, rfl, by kernel_rfl⟩, CallS.use (right x15 7 (by decide) (by decide) H4) [] rfl rfl trivial ?_⟩, trivial⟩
      rintro e H5 G' hle5 ⟨rfl, rfl, rfl⟩
      conv => whnf
      refine ⟨⟨trivial, trivial, ⟨_, rfl, by unfold wCells; exact List.take_left⟩, trivial⟩, ?_⟩
      conv => whnf
      refine ⟨⟨⟨_, Tryz.func202, rfl, by kernel_rfl⟩, CallS.use (right x15 18 (by decide) (by decide) H5) [] rfl rfl trivial ?_⟩, trivial⟩
      rintro e H6 G' hle6 ⟨rfl, rfl, rfl⟩
      conv => whnf
      refine ⟨⟨trivial, trivial, ⟨_, rfl, by unfold wCells; exact List.take_left⟩, trivial⟩, ?_⟩
      conv => whnf
      refine ⟨⟨by omega, by omega⟩, ?_⟩
      conv => whnf
      have hw : schedN bs (t + 1) = schedN bs t ++ [sg1 x2 + x7 + sg0 x15 + x16] := by
        show schedN bs t ++ [if t < 16 then _ else _] = _
        rw [if_neg (by omega), hx2, hx7, hx15, hx16]
      refine ⟨⟨?_, ?_⟩, trivial⟩
      rotate_left
      · conv => whnf
        rw [wCells_succ bs (by omega) (by simp) hw (sig_eq x2 x7 x15 x16)]
        refine ⟨⟨trivial, trivial, ⟨_, rfl, by unfold wCells; rw [hw, List.map_append, List.append_assoc]; exact List.take_left⟩, trivial⟩, ?_⟩
        conv => whnf
        rw [wrap64 (x := (t : Int) + 1) (by omega) (by omega)]
        exact ⟨64 - (t + 1), by omega, _, _, [0, 1, 2], ⟨t + 1, by omega, rfl, rfl, rfl, rfl⟩, rfl, ⟨rfl, .inl rfl, .inl rfl, trivial⟩, rfl, rfl, rfl, rfl, trivial⟩
      · rw [wCells_length bs h2]
        show 0 + (t : Int).toNat * 1 + 1 ≤ 64
        omega
  · simp only [decide_eq_false_iff_not] at h1
    obtain rfl : t = 64 := by omega
    refine ⟨lit64 fun i => cellW (wAt bs i), rfl, fun j x hj => ?_, ?_⟩
    · obtain ⟨hj1, rfl⟩ := lit64_get _ hj
      exact wget hj1 (by omega)
    conv => whnf
    refine ⟨by simp, ?_⟩
    conv => whnf
    refine ⟨lit64 fun i => cellW (wAt bs i), rfl, fun j x hj => ?_, ?_⟩
    · obtain ⟨hj1, rfl⟩ := lit64_get _ hj
      show (splice (List.replicate 64 (Value.int .u32 0)) 0 (lit64 fun i => cellW (wAt bs i)))[0 + j]? = _
      unfold splice
      rw [List.take_zero, List.nil_append, List.getElem?_append_left (by show 0 + j < 64; omega), Nat.zero_add]
      exact hj
    conv => whnf
    exact ⟨rfl, rfl, rfl⟩
end Go.Kx.Sha
namespace Go.Kx.Sha
open Go.Proofs Go.Kx
set_option maxRecDepth 20000

def s8 (s : Fin 8 → BitVec 32) : List SC := [.val (cellW (s 0)), .val (cellW (s 1)), .val (cellW (s 2)), .val (cellW (s 3)), .val (cellW (s 4)), .val (cellW (s 5)), .val (cellW (s 6)), .val (cellW (s 7))]
def Sg0 (a : BitVec 32) : BitVec 32 := a.rotateRight 2 ^^^ a.rotateRight 13 ^^^ a.rotateRight 22
def Sg1 (e : BitVec 32) : BitVec 32 := e.rotateRight 6 ^^^ e.rotateRight 11 ^^^ e.rotateRight 25
structure St8 where
  a : BitVec 32
  b : BitVec 32
  c : BitVec 32
  d : BitVec 32
  e : BitVec 32
  f : BitVec 32
  g : BitVec 32
  h : BitVec 32
def St8.t1 (s : St8) (k w : BitVec 32) : BitVec 32 := s.h + Sg1 s.e + ((s.e &&& s.f) ^^^ (~~~ s.e &&& s.g)) + k + w
def St8.t2 (s : St8) : BitVec 32 := Sg0 s.a + ((s.a &&& s.b) ^^^ (s.a &&& s.c) ^^^ (s.b &&& s.c))
def St8.round (s : St8) (k w : BitVec 32) : St8 := ⟨s.t1 k w + s.t2, s.a, s.b, s.c, s.d + s.t1 k w, s.e, s.f, s.g⟩
def rounds (bs : List UInt8) (s : St8) : Nat → St8
  | 0 => s
  | t + 1 => (rounds bs s t).round (kAt t) (wAt bs t)
def St8.cells (s : St8) : List SC := [.val (cellW s.a), .val (cellW s.b), .val (cellW s.c), .val (cellW s.d), .val (cellW s.e), .val (cellW s.f), .val (cellW s.g), .val (cellW s.h)]
def St8.vals (s : St8) : List Value := [cellW s.a, cellW s.b, cellW s.c, cellW s.d, cellW s.e, cellW s.f, cellW s.g, cellW s.h]
def wVals (bs : List UInt8) : List Value := lit64 fun i => cellW (wAt bs i)
def RI (st : St8) (n : Nat) (bs : List UInt8) (H : Hp) (m : Nat) (F : Fr) (H2 : Hp) (G : List SB) : Prop :=
  ∃ t : Nat, t < 64 ∧ m = 64 - t ∧ F = [(2, .si (.ce (.ptr 1 0))), (4, .si (.ce (.ptr 2 0))), (5, .si (.ce (.ptr 3 0))), (6, .si (.ce (.ptr 4 0))), (7, pv (.int .i64 t))] ∧ H2 = H ∧
    G = [.row 5 1 n (bCells bs), .box 197 st.cells, .box 197 [.val (.int .u32 0), .val (.int .u32 0), .val (.int .u32 0), .val (.int .u32 0), .val (.int .u32 0), .val (.int .u32 0), .val (.int .u32 0), .val (.int .u32 0)], .arr 232 (wVals bs), .box 197 (rounds bs st t).cells]
theorem wVals_get {bs : List UInt8} {t off : Nat} (ht : t < 64) (ho : off = t) : (wVals bs)[off]? = some (.int .u32 (u (wAt bs t))) := by
  subst ho
  unfold wVals
  rw [lit64_eq, List.getElem?_map, List.getElem?_range ht]
  rfl
theorem u_not (a : BitVec 32) : IntKind.u32.wrap ((BitVec.ofInt IntKind.u32.bits (if IntKind.u32.signed = true then -1 else IntKind.u32.max) ^^^ BitVec.ofInt IntKind.u32.bits (u a)).toNat : Int) = u (~~~ a) := by
  have h : ((BitVec.ofInt 32 (-1 + 4294967296)) : BitVec 32) = BitVec.allOnes 32 := by decide
  have h1 : IntKind.u32.max = (-1 + 4294967296 : Int) := by decide
  rw [show (if IntKind.u32.signed = true then (-1 : Int) else IntKind.u32.max) = (-1 + 4294967296 : Int) by rw [if_neg (by decide), h1]]
  show IntKind.u32.wrap ((BitVec.ofInt 32 (-1 + 4294967296) ^^^ BitVec.ofInt 32 (u a)).toNat : Int) = _
  rw [h, show BitVec.ofInt 32 (u a) = a from ofInt_u a, BitVec.allOnes_xor]
  exact wrap32 (u_lt _).1 (u_lt (~~~ a)).2
def St8.add (s t : St8) : St8 := ⟨s.a + t.a, s.b + t.b, s.c + t.c, s.d + t.d, s.e + t.e, s.f + t.f, s.g + t.g, s.h + t.h⟩
def addC (s t : St8) : Nat → List SC
  | 0 => s.cells
  | 1 => (St8.mk (s.a + t.a) s.b s.c s.d s.e s.f s.g s.h).cells
  | 2 => (St8.mk (s.a + t.a) (s.b + t.b) s.c s.d s.e s.f s.g s.h).cells
  | 3 => (St8.mk (s.a + t.a) (s.b + t.b) (s.c + t.c) s.d s.e s.f s.g s.h).cells
  | 4 => (St8.mk (s.a + t.a) (s.b + t.b) (s.c + t.c) (s.d + t.d) s.e s.f s.g s.h).cells
  | 5 => (St8.mk (s.a + t.a) (s.b + t.b) (s.c + t.c) (s.d + t.d) (s.e + t.e) s.f s.g s.h).cells
  | 6 => (St8.mk (s.a + t.a) (s.b + t.b) (s.c + t.c) (s.d + t.d) (s.e + t.e) (s.f + t.f) s.g s.h).cells
  | 7 => (St8.mk (s.a + t.a) (s.b + t.b) (s.c + t.c) (s.d + t.d) (s.e + t.e) (s.f + t.f) (s.g + t.g) s.h).cells
  | _ => (s.add t).cells
def zero8 : List SC := [.val (.int .u32 0), .val (.int .u32 0), .val (.int .u32 0), .val (.int .u32 0), .val (.int .u32 0), .val (.int .u32 0), .val (.int .u32 0), .val (.int .u32 0)]
def compressP (bs : List UInt8) (st : St8) : St8 := (rounds bs st 64).add st
theorem compress (st : St8) (n : Nat) (bs : List UInt8) (hn : 64 ≤ n) (hl : bs.length = n) (H : Hp) : CallO Tryz.prog 163 [.si (.ag st.cells), .si (.ce (.self 0))] H [.row 5 1 n (bCells bs)] fun e H' G' =>
    e = .ret (.si (.ag (compressP bs st).cells)) ∧ H' = H ∧ G' = [.row 5 1 n (bCells bs)] := by
  refine CallO.of_bodyW tab Tryz.func163 rfl (nt := Tryz.f163.ntmps) rfl (by kernel_rfl) ?_
  refine W.seqS (codeX_ok tab _ ?_)
  conv => whnf
  refine WS.scopeR (l := 0) rfl (RI st n bs H) 64 ?_ ?_
  · rintro m F H2 G hle ⟨t, ht, rfl, rfl, rfl, rfl⟩
    refine codeL.go tab ?_
    conv => whnf
    refine WS.draw tab mixed (.take 0 (.take 1 (.take 2 (.take 3 (.take 5 (.take 6 (.take 9 (.take 10 (.take 14 (.take 15 (.take 16 (.take 17 (.take 18 (.take 19 (.take 20 (.take 21 (.take 22 (.take 23 (.take 24 (.take 25 (.take 27 (.take 30 (.take 31 (.take 32 (.alt 4 (.alt 7 (.take 8 (.alt 11 (.take 12 (.take 13 (.take 26 (.alt 28 (.take 29 (.take 33 (.take 34 .done))) .no)))) .no)) .no) .no))))))))))))))))))))))))) (by kernel_rfl) [] ?_
    conv => whnf
    generalize hR : rounds bs st t = R
    iterate 8 (refine ⟨by decide, ?_⟩; conv => whnf)
    refine ⟨⟨by omega, by omega⟩, ?_⟩
    conv => whnf
    refine ⟨_, wVals_get ht (by simp), ?_⟩
    conv => whnf
    refine ⟨⟨⟨_, Tryz.func202, rfl, by kernel_rfl⟩, CallS.use (right R.e 6 (by decide) (by decide) H2) [] rfl rfl trivial ?_⟩, trivial⟩
    rintro e H3 G' hle3 ⟨rfl, rfl, rfl⟩
    conv => whnf
    refine ⟨⟨rfl, rfl, rfl, rfl, rfl, trivial⟩, ?_⟩
    conv => whnf
    refine ⟨⟨⟨_, Tryz.func202, rfl, by kernel_rfl⟩, CallS.use (right R.e 11 (by decide) (by decide) H3) [] rfl rfl trivial ?_⟩, trivial⟩
    rintro e H4 G' hle4 ⟨rfl, rfl, rfl⟩
    conv => whnf
    refine ⟨⟨rfl, rfl, rfl, rfl, rfl, trivial⟩, ?_⟩
    conv => whnf
    refine ⟨⟨⟨_, Tryz.func202, rfl, by kernel_rfl⟩, CallS.use (right R.e 25 (by decide) (by decide) H4) [] rfl rfl trivial ?_⟩, trivial⟩
    rintro e H5 G' hle5 ⟨rfl, rfl, rfl⟩
    conv => whnf
    refine ⟨⟨rfl, rfl, rfl, rfl, rfl, trivial⟩, ?_⟩
    conv => whnf
    refine ⟨⟨⟨_, Tryz.func203, rfl, by kernel_rfl⟩, CallS.use (kOf t ht H5) [] rfl rfl trivial ?_⟩, trivial⟩
    rintro e H6 G' hle6 ⟨rfl, rfl, rfl⟩
    conv => whnf
    refine ⟨⟨rfl, rfl, rfl, rfl, rfl, trivial⟩, ?_⟩
    conv => whnf
    refine WS.draw tab mixed (.take 0 (.take 1 (.take 3 (.take 4 (.take 7 (.take 8 (.take 11 (.take 12 (.take 13 (.take 14 (.take 15 (.take 16 (.take 17 (.take 18 (.take 19 (.take 20 (.take 21 (.take 22 (.take 23 (.take 24 (.take 25 (.take 26 (.take 27 (.alt 2 (.alt 5 (.take 6 (.alt 9 (.take 10 (.take 28 (.take 29 .done))) .no)) .no) .no)))))))))))))))))))))))) (by kernel_rfl) [] ?_
    conv => whnf
    iterate 9 (refine ⟨by decide, ?_⟩; conv => whnf)
    refine ⟨⟨⟨_, Tryz.func202, rfl, by kernel_rfl⟩, CallS.use (right R.a 2 (by decide) (by decide) H6) [] rfl rfl trivial ?_⟩, trivial⟩
    rintro e H7 G' hle7 ⟨rfl, rfl, rfl⟩
    conv => whnf
    refine ⟨⟨rfl, rfl, rfl, rfl, rfl, trivial⟩, ?_⟩
    conv => whnf
    refine ⟨⟨⟨_, Tryz.func202, rfl, by kernel_rfl⟩, CallS.use (right R.a 13 (by decide) (by decide) H7) [] rfl rfl trivial ?_⟩, trivial⟩
    rintro e H8 G' hle8 ⟨rfl, rfl, rfl⟩
    conv => whnf
    refine ⟨⟨rfl, rfl, rfl, rfl, rfl, trivial⟩, ?_⟩
    conv => whnf
    refine ⟨⟨⟨_, Tryz.func202, rfl, by kernel_rfl⟩, CallS.use (right R.a 22 (by decide) (by decide) H8) [] rfl rfl trivial ?_⟩, trivial⟩
    rintro e H9 G' hle9 ⟨rfl, rfl, rfl⟩
    conv => whnf
    refine ⟨⟨rfl, rfl, rfl, rfl, rfl, trivial⟩, ?_⟩
    conv => whnf
    iterate 7 (refine ⟨by decide, ?_⟩; conv => whnf)
    rw [wrap64 (x := (t : Int) + 1) (by omega) (by omega)]
    refine br.of (fun h1 => ?_) (fun h1 => ?_) <;> conv => whnf
    · simp only [decide_eq_true_eq] at h1
      simp only [u_not, u_xor, u_and, u_add]
      refine ⟨64 - (t + 1), by omega, _, _, [0, 1, 2, 3, 4], ⟨t + 1, by omega, rfl, rfl, rfl, rfl⟩, rfl, ⟨rfl, rfl, rfl, .inl rfl, ?_, trivial⟩, rfl, rfl, rfl, rfl, rfl, trivial⟩
      show _ = SB.box 197 (((rounds bs st t).round (kAt t) (wAt bs t)).cells.map (SC.ren [0, 1, 2, 3, 4]))
      rw [hR]
      rfl
    · simp only [decide_eq_false_iff_not] at h1
      obtain rfl : t = 63 := by omega
      simp only [u_not, u_xor, u_and, u_add]
      refine WS.loop (fun m F H3 G => ∃ k : Nat, k ≤ 8 ∧ m = 8 - k ∧ F = [(4, .si (.ce (.ptr 2 0))), (6, .si (.ce (.ptr 4 0))), (102, .si (.ag st.cells)), (103, pv (.int .i64 k))] ∧ H3 = H9 ∧
          G = [.row 5 1 n (bCells bs), .box 197 st.cells, .box 197 zero8, .arr 232 (wVals bs), .box 197 (addC (rounds bs st 64) st k)]) 9
        ⟨8, by decide, _, _, [0, 1, 2, 3, 4], ⟨0, by decide, rfl, rfl, rfl, rfl⟩, rfl, ⟨rfl, rfl, rfl, .inl rfl, ?_, trivial⟩, rfl, rfl, rfl, rfl, trivial⟩ ?_
      · show _ = SB.box _ (((rounds bs st 63).round (kAt 63) (wAt bs 63)).cells.map (SC.ren [0, 1, 2, 3, 4]))
        rw [hR]; rfl
      clear hR
      rintro m F H3 G hle10 ⟨k, hk, rfl, rfl, rfl, rfl⟩
      refine codeL.go tab ?_
      unfold compressP
      generalize rounds bs st 64 = R2
      have hk9 : k = 0 ∨ k = 1 ∨ k = 2 ∨ k = 3 ∨ k = 4 ∨ k = 5 ∨ k = 6 ∨ k = 7 ∨ k = 8 := by omega
      rcases hk9 with rfl | rfl | rfl | rfl | rfl | rfl | rfl | rfl | rfl
      all_goals conv => whnf
      all_goals first
        | exact ⟨rfl, rfl, rfl⟩
        | (iterate 4 (first | (refine ⟨by decide, ?_⟩; conv => whnf) | (refine ⟨_, rfl, ?_⟩; conv => whnf))
           rw [u_add]
           first | exact ⟨7, by decide, _, _, [0, 1, 2, 3, 4], ⟨1, by decide, rfl, rfl, rfl, rfl⟩, rfl, ⟨rfl, rfl, rfl, .inl rfl, rfl, trivial⟩, rfl, rfl, rfl, rfl, trivial⟩ | exact ⟨6, by decide, _, _, [0, 1, 2, 3, 4], ⟨2, by decide, rfl, rfl, rfl, rfl⟩, rfl, ⟨rfl, rfl, rfl, .inl rfl, rfl, trivial⟩, rfl, rfl, rfl, rfl, trivial⟩ | exact ⟨5, by decide, _, _, [0, 1, 2, 3, 4], ⟨3, by decide, rfl, rfl, rfl, rfl⟩, rfl, ⟨rfl, rfl, rfl, .inl rfl, rfl, trivial⟩, rfl, rfl, rfl, rfl, trivial⟩ | exact ⟨4, by decide, _, _, [0, 1, 2, 3, 4], ⟨4, by decide, rfl, rfl, rfl, rfl⟩, rfl, ⟨rfl, rfl, rfl, .inl rfl, rfl, trivial⟩, rfl, rfl, rfl, rfl, trivial⟩ | exact ⟨3, by decide, _, _, [0, 1, 2, 3, 4], ⟨5, by decide, rfl, rfl, rfl, rfl⟩, rfl, ⟨rfl, rfl, rfl, .inl rfl, rfl, trivial⟩, rfl, rfl, rfl, rfl, trivial⟩ | exact ⟨2, by decide, _, _, [0, 1, 2, 3, 4], ⟨6, by decide, rfl, rfl, rfl, rfl⟩, rfl, ⟨rfl, rfl, rfl, .inl rfl, rfl, trivial⟩, rfl, rfl, rfl, rfl, trivial⟩ | exact ⟨1, by decide, _, _, [0, 1, 2, 3, 4], ⟨7, by decide, rfl, rfl, rfl, rfl⟩, rfl, ⟨rfl, rfl, rfl, .inl rfl, rfl, trivial⟩, rfl, rfl, rfl, rfl, trivial⟩ | exact ⟨0, by decide, _, _, [0, 1, 2, 3, 4], ⟨8, by decide, rfl, rfl, rfl, rfl⟩, rfl, ⟨rfl, rfl, rfl, .inl rfl, rfl, trivial⟩, rfl, rfl, rfl, rfl, trivial⟩)
  · intro hr
    refine codeL.seqTo tab (fun F H2 G => H2 = H ∧ F = [(2, .si (.ce (.ptr 1 0))), (4, .si (.ce (.ptr 2 0))), (5, .si (.ce (.ptr 3 0))), (6, .si (.ce (.ptr 4 0))), (7, pv (.int .i64 0))] ∧ G = [.row 5 1 n (bCells bs), .box 197 st.cells, .box 197 zero8, .arr 232 (wVals bs), .box 197 st.cells]) ?_ ?_
    · conv => whnf
      refine WS.draw tab mixed (.take 0 (.take 2 (.alt 1 (.alt 3 (.alt 4 (.alt 5 (.alt 6 (.take 7 .done) .no) .no) .no) (.alt 4 (.alt 3 (.alt 5 (.alt 6 (.take 7 .done) .no) .no) .no) .no)) (.alt 3 (.alt 1 (.alt 4 (.alt 5 (.alt 6 (.take 7 .done) .no) .no) .no) (.alt 4 (.alt 1 (.alt 5 (.alt 6 (.take 7 .done) .no) .no) .no) .no)) (.alt 4 (.alt 1 (.alt 3 (.alt 5 (.alt 6 (.take 7 .done) .no) .no) .no) (.alt 3 (.alt 1 (.alt 5 (.alt 6 (.take 7 .done) .no) .no) .no) .no)) .no))))) (by kernel_rfl) [] ?_
      conv => whnf
      repeat' (first
        | exact trivial
        | exact rfl
        | exact ⟨_, Tryz.func201, rfl, by kernel_rfl⟩
        | exact ⟨_, _, [0, 1, 2, 3, 4], ⟨rfl, rfl, rfl⟩, rfl, ⟨rfl, rfl, rfl, .inr rfl, rfl, trivial⟩, rfl, rfl, rfl, rfl, rfl, trivial⟩
        | exact ⟨_, _, [0, 1, 2, 4, 3], ⟨rfl, rfl, rfl⟩, rfl, ⟨rfl, rfl, rfl, .inr rfl, rfl, trivial⟩, rfl, rfl, rfl, rfl, rfl, trivial⟩
        | (refine CallS.use (schedule n bs hn hl _) [0] rfl rfl ⟨rfl, trivial⟩ ?_; rintro e H' G' hle ⟨rfl, rfl, rfl⟩; conv => whnf)
        | (refine And.intro ?_ ?_ <;> conv => whnf))
    · rintro F H2 G hle ⟨rfl, rfl, rfl⟩
      refine codeL.seqTo tab (RI st n bs H2 64) ?_ fun F' H' G' hle hI => codeL.label (hr F' H' G' hle hI)
      conv => whnf
      exact ⟨_, _, [0, 1, 2, 3, 4], ⟨0, by decide, rfl, rfl, rfl, rfl⟩, rfl, ⟨rfl, rfl, rfl, .inl rfl, rfl, trivial⟩, rfl, rfl, rfl, rfl, rfl, trivial⟩
end Go.Kx.Sha
namespace Go.Kx.Sha
open Go.Proofs Go.Kx

def blocks : Nat → St8 → List UInt8 → St8
  | 0, s, _ => s
  | n + 1, s, b => blocks n (compressP b s) (b.drop 64)
theorem schedN_ext {a b : List UInt8} (h : ∀ i, i < 64 → byteN a i = byteN b i) : ∀ t, schedN a t = schedN b t := by
  have hw : ∀ j, j < 16 → word a j = word b j := by
    intro j hj
    unfold word by32
    rw [h _ (by omega), h _ (by omega), h _ (by omega), h _ (by omega)]
  intro t
  induction t with
  | zero => rfl
  | succ t ih =>
    simp only [schedN, ih]
    by_cases ht : t < 16
    · rw [if_pos ht, if_pos ht, hw t ht]
    · rw [if_neg ht, if_neg ht]
theorem compressP_ext {a b : List UInt8} (h : ∀ i, i < 64 → byteN a i = byteN b i) (s : St8) : compressP a s = compressP b s := by
  have hr : ∀ t, rounds a s t = rounds b s t := by
    intro t
    induction t with
    | zero => rfl
    | succ t ih => unfold rounds wAt; rw [ih, schedN_ext h]
  unfold compressP
  rw [hr]
theorem compressP_append {a : List UInt8} (b : List UInt8) (h : 64 ≤ a.length) (s : St8) : compressP (a ++ b) s = compressP a s := by
  refine compressP_ext (fun i hi => ?_) s
  unfold byteN
  rw [List.getD_eq_getElem?_getD, List.getElem?_append_left (by omega), ← List.getD_eq_getElem?_getD]
theorem blocks_append (y : List UInt8) : ∀ (n : Nat) (s : St8) (x : List UInt8), n * 64 ≤ x.length → blocks n s (x ++ y) = blocks n s x
  | 0, _, _, _ => rfl
  | n + 1, s, x, h => by
    unfold blocks
    rw [compressP_append y (by omega), List.drop_append_of_le_length (by omega)]
    exact blocks_append y n _ _ (by simp; omega)
theorem blocks_add : ∀ (a b : Nat) (s : St8) (x : List UInt8), blocks (a + b) s x = blocks b (blocks a s x) (x.drop (64 * a))
  | 0, b, s, x => by simp [blocks]
  | a + 1, b, s, x => by
    rw [show a + 1 + b = (a + b) + 1 by omega]
    show blocks (a + b) (compressP x s) (x.drop 64) = blocks b (blocks a (compressP x s) (x.drop 64)) (x.drop (64 * (a + 1)))
    rw [blocks_add a b, List.drop_drop, show 64 + 64 * a = 64 * (a + 1) by omega]
theorem blocks_succ (n : Nat) (s : St8) (x : List UInt8) : blocks (n + 1) s x = compressP (x.drop (64 * n)) (blocks n s x) := by
  rw [blocks_add n 1]; rfl

def init8 : St8 := ⟨1779033703, 3144134277, 1013904242, 2773480762, 1359893119, 2600822924, 528734635, 1541459225⟩
def hst (m : List UInt8) : St8 := blocks (m.length / 64) init8 m
def rst (m : List UInt8) : List UInt8 := m.drop (64 * (m.length / 64))
theorem rst_length (m : List UInt8) : (rst m).length = m.length % 64 := by unfold rst; rw [List.length_drop]; omega
theorem split_rst (m : List UInt8) : m.take (64 * (m.length / 64)) ++ rst m = m := List.take_append_drop _ _
theorem hst_append (m b : List UInt8) : hst (m ++ b) = blocks ((rst m ++ b).length / 64) (hst m) (rst m ++ b) := by
  have hl : (m ++ b).length / 64 = m.length / 64 + (rst m ++ b).length / 64 := by
    rw [List.length_append, List.length_append, rst_length]; omega
  have hd : (m ++ b).drop (64 * (m.length / 64)) = rst m ++ b := by
    rw [List.drop_append_of_le_length (by omega)]; rfl
  unfold hst
  rw [hl, blocks_add, hd, blocks_append b (m.length / 64) init8 m (by omega)]
theorem rst_append (m b : List UInt8) : rst (m ++ b) = (rst m ++ b).drop (64 * ((rst m ++ b).length / 64)) := by
  have hl : (m ++ b).length / 64 = m.length / 64 + (rst m ++ b).length / 64 := by
    rw [List.length_append, List.length_append, rst_length]; omega
  have hd : (m ++ b).drop (64 * (m.length / 64)) = rst m ++ b := by
    rw [List.drop_append_of_le_length (by omega)]; rfl
  show (m ++ b).drop (64 * ((m ++ b).length / 64)) = _
  rw [hl, Nat.mul_add, ← List.drop_drop, hd]

def byteOf (n : Int) : UInt8 := UInt8.ofNat (n % 256).toNat
def be8 (n : Nat) : List UInt8 := [byteOf (n / 2 ^ 56 : Nat), byteOf (n / 2 ^ 48 : Nat), byteOf (n / 2 ^ 40 : Nat), byteOf (n / 2 ^ 32 : Nat), byteOf (n / 2 ^ 24 : Nat), byteOf (n / 2 ^ 16 : Nat), byteOf (n / 2 ^ 8 : Nat), byteOf (n : Nat)]
def padN (n : Nat) : Nat := (119 - n % 64) % 64
def tailOf (r : List UInt8) (n : Nat) : List UInt8 := r ++ 128 :: (List.replicate (padN r.length) 0 ++ be8 (8 * n))
def be4 (x : BitVec 32) : List UInt8 := [byteOf (x.toNat / 2 ^ 24 : Nat), byteOf (x.toNat / 2 ^ 16 : Nat), byteOf (x.toNat / 2 ^ 8 : Nat), byteOf (x.toNat : Nat)]
def outB (s : St8) : List UInt8 := be4 s.a ++ (be4 s.b ++ (be4 s.c ++ (be4 s.d ++ (be4 s.e ++ (be4 s.f ++ (be4 s.g ++ be4 s.h))))))
def sha (m : List UInt8) : List UInt8 := outB (hst (tailOf m m.length))
theorem sha_length (m : List UInt8) : (sha m).length = 32 := rfl
theorem tailOf_length (r : List UInt8) (n : Nat) : (tailOf r n).length = r.length + 1 + padN r.length + 8 := by
  unfold tailOf; simp [be8]; omega
theorem tailOf_mod (r : List UInt8) (n : Nat) : (tailOf r n).length % 64 = 0 := by
  rw [tailOf_length]; unfold padN; omega
theorem padN_mod (n : Nat) : padN (n % 64) = padN n := by unfold padN; omega
theorem sha_eq (m : List UInt8) : sha m = outB (blocks ((tailOf (rst m) m.length).length / 64) (hst m) (tailOf (rst m) m.length)) := by
  have h : tailOf m m.length = m ++ (128 :: (List.replicate (padN m.length) 0 ++ be8 (8 * m.length))) := rfl
  have h2 : rst m ++ (128 :: (List.replicate (padN m.length) 0 ++ be8 (8 * m.length))) = tailOf (rst m) m.length := by
    unfold tailOf; rw [rst_length, padN_mod]
  unfold sha
  rw [h, hst_append, h2]
end Go.Kx.Sha
namespace Go.Kx.Sha
open Go.Proofs Go.Kx
set_option maxRecDepth 20000

def hBox (k : Nat) (m : List UInt8) : SB := .box 199 ((hst m).cells ++ [.self k, .val (.int .i64 m.length)])
def hRow (m : List UInt8) : SB := .row 5 1 (rst m).length (bCells (rst m))
theorem new_ (H : Hp) : CallO Tryz.prog 121 [] H [] fun e H' G' => e = .ret (.si (.ce (.ptr 0 0))) ∧ H' = H ∧ G' = [hBox 1 [], hRow []] := by
  refine CallO.nilCell (K0 := fun e H' G' => e = .ret (.si (.ce (.ptr 0 0))) ∧ H' = H ∧ G' = [.box 199 (init8.cells ++ [.val (.slice none 0 0), .val (.int .i64 0)])]) ?_ ?_
  · refine CallO.of_body tab Tryz.func121 rfl (nt := Tryz.f121.ntmps) rfl (by kernel_rfl) ?_
    (conv => whnf)
    exact ⟨rfl, rfl, rfl⟩
  · rintro e H' G' hle ⟨rfl, rfl, rfl⟩
    exact .inr ⟨0, 8, _, _, 5, 1, rfl, rfl, rfl, rfl, rfl⟩
theorem row_cut (all : List UInt8) (i : Nat) : SB.row 5 1 ((all.drop (64 * i)).length - Int.toNat 64) ((bCells (all.drop (64 * i))).drop (Int.toNat 64 * 1)) = SB.row 5 1 (all.drop (64 * (i + 1))).length (bCells (all.drop (64 * (i + 1)))) := by
  have e : Int.toNat 64 = 64 := rfl
  rw [e, Nat.mul_one, bCells_drop, List.drop_drop, ← List.length_drop, List.drop_drop, Nat.mul_succ]
def WI (m bs : List UInt8) (n : Nat) (H : Hp) (k : Nat) (F : Fr) (H3 : Hp) (G : List SB) : Prop :=
  ∃ i : Nat, i ≤ (rst m ++ bs).length / 64 ∧ k = (rst m ++ bs).length / 64 - i ∧ F = [(0, .si (.ce (.ptr 0 0)))] ∧ H3 = H ∧
        G = [.box 199 ((blocks i (hst m) (rst m ++ bs)).cells ++ [.self 2, .val (.int .i64 ((m.length : Int) + n))]), .dead, .row 5 1 ((rst m ++ bs).drop (64 * i)).length (bCells ((rst m ++ bs).drop (64 * i)))]
theorem write (m bs : List UInt8) (A : Option Addr) (n cap : Nat) (H : Hp) (hb : BytesAt H A n bs) (hl : m.length + n ≤ 1000000000) :
    CallO Tryz.prog 122 [.si (.ce (.ptr 0 0)), pv (.slice A n cap)] H [hBox 1 m, hRow m] fun e H' G' => e = .ret (.tu []) ∧ H' = H ∧ G' = [hBox 2 (m ++ bs), .dead, hRow (m ++ bs)] := by
  have hr := rst_length m
  obtain ⟨hn, hA, hrd⟩ := hb
  have fin : ∀ i, i = (rst m ++ bs).length / 64 → (SB.box 199 ((blocks i (hst m) (rst m ++ bs)).cells ++ [.self 2, .val (.int .i64 ((m.length : Int) + n))]) = hBox 2 (m ++ bs)) ∧ (SB.row 5 1 ((rst m ++ bs).drop (64 * i)).length (bCells ((rst m ++ bs).drop (64 * i))) = hRow (m ++ bs)) := by
    intro i hi
    subst hi
    refine ⟨?_, ?_⟩
    · unfold hBox
      have hlen : (m ++ bs).length = m.length + bs.length := List.length_append
      rw [hst_append, hlen, hn, Int.natCast_add]
    · unfold hRow
      rw [rst_append]
  have hal : (rst m ++ bs).length = (rst m).length + n := by rw [List.length_append, hn]
  refine CallO.of_body tab Tryz.func122 rfl (nt := Tryz.f122.ntmps) rfl (by kernel_rfl) ?_
  (conv => whnf)
  rw [wrap64 (by omega) (by omega)]
  cases A with
  | none =>
    have hbs := hA rfl
    obtain rfl : n = 0 := by rw [hn, hbs]; rfl
    (conv => whnf)
    refine ⟨by show ((rst m).length + 0) * 2 ≤ _; omega, ?_⟩
    (conv => whnf)
    refine WS.loop (WI m bs 0 H) ((rst m ++ bs).length / 64 + 1) ?_ ?_
    · refine ⟨(rst m ++ bs).length / 64, by omega, _, _, [0, 1, 2], ⟨0, by omega, rfl, rfl, rfl, rfl⟩, ?_⟩
      refine ⟨rfl, ⟨rfl, trivial, ?_, trivial⟩, rfl, trivial⟩
      show SB.row 5 1 ((rst m).length + 0) (bCells (rst m) ++ []) = SB.row 5 1 ((rst m ++ bs).drop (64 * 0)).length (bCells ((rst m ++ bs).drop (64 * 0)))
      rw [hbs, Nat.mul_zero, List.drop_zero, List.append_nil, List.append_nil]; rfl
    · unfold WI
      generalize rst m ++ bs = all at *
      generalize hst m = s0 at *
      rintro k F H3 G hle ⟨i, hi, rfl, rfl, rfl, rfl⟩
      refine codeL.go tab ?_
      (conv => whnf)
      have hdl : (all.drop (64 * i)).length = all.length - 64 * i := List.length_drop
      refine br.of (fun h1 => ?_) (fun h1 => ?_) <;> (conv => whnf)
      · simp only [ge_iff_le, decide_eq_true_eq] at h1
        refine WS.draw tab mixed (.take 0 (.take 1 (.take 2 (.take 3 (.take 5 (.take 6 (.take 7 (.alt 4 (.alt 8 (.alt 9 (.take 10 (.take 11 (.alt 12 .done .no))) .no) .no) (.alt 8 (.alt 4 (.alt 9 (.take 10 (.take 11 (.alt 12 .done .no))) .no) .no) .no))))))))) (by kernel_rfl) [0, 1, 2] ?_
        (conv => whnf)
        refine ⟨?_, ?_, trivial⟩ <;> (conv => whnf)
        all_goals
          refine ⟨⟨trivial, trivial, trivial, trivial⟩, ?_⟩
          (conv => whnf)
          refine ⟨?_, trivial⟩
          (conv => whnf)
          refine ⟨⟨trivial, trivial, trivial, trivial⟩, ?_⟩
          (conv => whnf)
          refine ⟨⟨⟨_, Tryz.func163, rfl, by kernel_rfl⟩, CallS.use (compress (blocks i s0 all) (all.drop (64 * i)).length (all.drop (64 * i)) (by omega) rfl H3) [2] rfl rfl ⟨rfl, trivial⟩ ?_⟩, trivial⟩
          rintro e H' G' hle2 ⟨rfl, rfl, rfl⟩
          (conv => whnf)
          refine ⟨⟨trivial, trivial, trivial, trivial⟩, ?_⟩
          (conv => whnf)
          refine ⟨?_, trivial⟩
          (conv => whnf)
          refine ⟨⟨trivial, trivial, trivial, trivial⟩, ?_⟩
          (conv => whnf)
          refine ⟨⟨by omega, by omega⟩, ?_⟩
          (conv => whnf)
          refine ⟨all.length / 64 - (i + 1), by omega, _, _, [0, 1, 3], ⟨i + 1, by omega, rfl, rfl, rfl, rfl⟩, ?_⟩
          refine ⟨rfl, ⟨?_, trivial, ?_, trivial⟩, rfl, trivial⟩
          · rw [blocks_succ]; rfl
          · exact row_cut all i
      · simp only [ge_iff_le, decide_eq_false_iff_not] at h1
        obtain ⟨f1, f2⟩ := fin i (by omega)
        exact ⟨rfl, rfl, by rw [← f1, ← f2]⟩
  | some a =>
    refine ⟨bCells bs, by rw [bCells_length, hn]; exact (Nat.mul_one _).symm, hrd a rfl, bCells_one bs, ?_⟩
    (conv => whnf)
    refine ⟨by show ((rst m).length + n) * 2 ≤ _; omega, ?_⟩
    (conv => whnf)
    refine WS.loop (WI m bs n H) ((rst m ++ bs).length / 64 + 1) ?_ ?_
    · refine ⟨(rst m ++ bs).length / 64, by omega, _, _, [0, 1, 2], ⟨0, by omega, rfl, rfl, rfl, rfl⟩, ?_⟩
      refine ⟨rfl, ⟨rfl, trivial, ?_, trivial⟩, rfl, trivial⟩
      show SB.row 5 1 ((rst m).length + n) (bCells (rst m) ++ bCells bs) = SB.row 5 1 ((rst m ++ bs).drop (64 * 0)).length (bCells ((rst m ++ bs).drop (64 * 0)))
      rw [bCells_append, Nat.mul_zero, List.drop_zero, List.length_append, hn]
    · unfold WI
      generalize rst m ++ bs = all at *
      generalize hst m = s0 at *
      rintro k F H3 G hle ⟨i, hi, rfl, rfl, rfl, rfl⟩
      refine codeL.go tab ?_
      (conv => whnf)
      have hdl : (all.drop (64 * i)).length = all.length - 64 * i := List.length_drop
      refine br.of (fun h1 => ?_) (fun h1 => ?_) <;> (conv => whnf)
      · simp only [ge_iff_le, decide_eq_true_eq] at h1
        refine WS.draw tab mixed (.take 0 (.take 1 (.take 2 (.take 3 (.take 5 (.take 6 (.take 7 (.alt 4 (.alt 8 (.alt 9 (.take 10 (.take 11 (.alt 12 .done .no))) .no) .no) (.alt 8 (.alt 4 (.alt 9 (.take 10 (.take 11 (.alt 12 .done .no))) .no) .no) .no))))))))) (by kernel_rfl) [0, 1, 2] ?_
        (conv => whnf)
        refine ⟨?_, ?_, trivial⟩ <;> (conv => whnf)
        all_goals
          refine ⟨⟨trivial, trivial, trivial, trivial⟩, ?_⟩
          (conv => whnf)
          refine ⟨?_, trivial⟩
          (conv => whnf)
          refine ⟨⟨trivial, trivial, trivial, trivial⟩, ?_⟩
          (conv => whnf)
          refine ⟨⟨⟨_, Tryz.func163, rfl, by kernel_rfl⟩, CallS.use (compress (blocks i s0 all) (all.drop (64 * i)).length (all.drop (64 * i)) (by omega) rfl H3) [2] rfl rfl ⟨rfl, trivial⟩ ?_⟩, trivial⟩
          rintro e H' G' hle2 ⟨rfl, rfl, rfl⟩
          (conv => whnf)
          refine ⟨⟨trivial, trivial, trivial, trivial⟩, ?_⟩
          (conv => whnf)
          refine ⟨?_, trivial⟩
          (conv => whnf)
          refine ⟨⟨trivial, trivial, trivial, trivial⟩, ?_⟩
          (conv => whnf)
          refine ⟨⟨by omega, by omega⟩, ?_⟩
          (conv => whnf)
          refine ⟨all.length / 64 - (i + 1), by omega, _, _, [0, 1, 3], ⟨i + 1, by omega, rfl, rfl, rfl, rfl⟩, ?_⟩
          refine ⟨rfl, ⟨?_, trivial, ?_, trivial⟩, rfl, trivial⟩
          · rw [blocks_succ]; rfl
          · exact row_cut all i
      · simp only [ge_iff_le, decide_eq_false_iff_not] at h1
        obtain ⟨f1, f2⟩ := fin i (by omega)
        exact ⟨rfl, rfl, by rw [← f1, ← f2]⟩
end Go.Kx.Sha
