/- Values that are made: texts, numbers, objects. No condition of its own. -/
import Derived.Test.YtfchdibbjaeocaaGreatDoorMT10
import Derived.Shelf.Strconv.ParseIntPublic10
import Derived.Lib.ParseIntBTie
import Derived.Test.YtfchdibbjaeocaaGreatDoorRows
import Derived.Lib.LaidTab
import Derived.Stop.LaidErr
import Derived.LaidSub
import Derived.MakeChecks
import Derived.Stop.ErrReads
import Derived.Test.YtfchdibbjaeocaaGreatDoorProg
import Derived.Shelf.Lays
import Derived.Lib.TrimByte
import Derived.Shelf.Strings.Split
namespace Go.Kx.Ob
open Go.Proofs Go.Kx Go.RowKit Go.Kx.Js Go.Kx.Pr Go.Kx.Rt
set_option maxRecDepth 20000
set_option linter.unusedSimpArgs false
def T : Tab := [(34, { k := TK.st [(0, 3, 1), (1, 4, 1), (2, 9, 1), (3, 31, 1), (4, 32, 1)], agg := true, size := 5, bytes := 80, zero := [Z.i IntKind.i64, Z.b, Z.s, Z.sl, Z.sl] }), (52, { k := TK.st [(0, 9, 1), (1, 34, 5)], agg := true, size := 6, bytes := 96, zero := [Z.s, Z.i IntKind.i64, Z.b, Z.s, Z.sl, Z.sl] }), (9, { k := TK.string, agg := false, size := 1, bytes := 16, zero := [Z.s] }), (4, { k := TK.bool, agg := false, size := 1, bytes := 1, zero := [Z.b] }), (35, { k := TK.int IntKind.i64, agg := false, size := 1, bytes := 8, zero := [Z.i IntKind.i64] }), (32, { k := TK.slice 52, agg := false, size := 1, bytes := 24, zero := [Z.sl] }), (3, { k := TK.int IntKind.i64, agg := false, size := 1, bytes := 8, zero := [Z.i IntKind.i64] }), (2, { k := TK.int IntKind.i64, agg := false, size := 1, bytes := 8, zero := [Z.i IntKind.i64] }), (138, { k := TK.ifc, agg := false, size := 1, bytes := 16, zero := [Z.ifc] }), (31, { k := TK.slice 34, agg := false, size := 1, bytes := 24, zero := [Z.sl] })]
set_option maxRecDepth 100000 in
theorem tab : TabOk Tryz.prog T := tabOk_mk (ts := [34, 52, 9, 4, 35, 32, 3, 2, 138, 31]) (by kernel_rfl)
theorem mixed : Tryz.prog.follows .mixedOrders = true := by kernel_rfl
def strJ (s : ByteArray) : J := .mk 4 false s [] []
def numJ (n : Int) : J := .mk 3 false (Lb.itoaB n) [] []
def objJ (ms : List (ByteArray × J)) : J := .mk 6 false ⟨#[]⟩ [] ms
theorem RdV.nil (H : Hp) : RdV H none [] := by
  exact ⟨fun _ => rfl, fun a e => (nomatch e)⟩
theorem ones_J {H : Hp} {j : J} {cs : List Value} (h : JAt H j cs) : ∀ u ∈ cs, u.oneCell' = true := by
  obtain ⟨A, n, c, B, m, d, rfl⟩ := h.cells
  intro u hu
  simp only [List.mem_cons, List.mem_nil_iff, or_false] at hu
  rcases hu with rfl | rfl | rfl | rfl | rfl <;> rfl
theorem ones_Ms {H : Hp} : ∀ {ms : List (ByteArray × J)} {zs : List Value}, MsAt H ms zs → ∀ u ∈ zs, u.oneCell' = true
  | _, _, .nil => fun u hu => by simp at hu
  | _, _, .cons h1 h2 => fun u hu => by
    rcases List.mem_append.1 hu with hu | hu
    · rcases List.mem_cons.1 hu with rfl | hu
      · rfl
      · exact ones_J h1 u hu
    · exact ones_Ms h2 u hu
theorem str_ (s : ByteArray) (H : Hp) : CallO Tryz.prog 48 [pv (.string s)] H [] fun e H' G' => e = .ret (agJ 4 false s none 0 0 none 0 0) ∧ H' = H ∧ G' = [] := by
  refine CallO.of_body tab Tryz.func48 rfl (nt := Tryz.f48.ntmps) rfl (by kernel_rfl) ?_
  (conv => whnf)
  exact ⟨rfl, rfl, rfl⟩
theorem num_ (n : Int) (h0 : -9223372036854775808 ≤ n) (h1 : n ≤ 9223372036854775807) (H : Hp) : CallO Tryz.prog 23 [pv (.int .i64 n)] H [] fun e H' G' => e = .ret (agJ 3 false (Lb.itoaB n) none 0 0 none 0 0) ∧ H' = H ∧ G' = [] := by
  refine CallO.of_body tab Tryz.func23 rfl (nt := Tryz.f23.ntmps) rfl (by kernel_rfl) ?_
  (conv => whnf)
  refine ⟨⟨_, Tryz.func66, rfl, by kernel_rfl⟩, CallS.use (Lb.itoa n h0 h1 H []) [] rfl rfl trivial ?_⟩
  rintro e H1 G' hle1 ⟨rfl, rfl, rfl⟩
  (conv => whnf)
  exact ⟨rfl, rfl, rfl⟩
theorem clone0 (A : Option Addr) (n c : Nat) (zs : List Value) (hz : zs.length = n * 6) (hone : ∀ u ∈ zs, u.oneCell' = true) (h0 : 0 < n) (hn : n ≤ 1000000) (H : Hp) (hv : RdV H A zs) :
    CallO Tryz.prog 65 [pv (.slice A n c)] H [] fun e _ G' => e = .ret (.si (.ce (.self 0))) ∧ G' = [.row 52 6 n zs] := by
  refine CallO.of_body tab Tryz.func65 rfl (nt := Tryz.f65.ntmps) rfl (by kernel_rfl) ?_
  (conv => whnf)
  cases A with
  | none =>
    have := hv.1 rfl
    rw [this] at hz
    simp at hz
    omega
  | some a =>
    (conv => whnf)
    refine ⟨by decide, .inl ?_⟩
    intro g H2 hle hrd
    (conv => whnf)
    refine ⟨zs, hz, (hv.2 a rfl).mono hle, hone, fun h => absurd h (by omega), fun _ => ⟨rfl, [], rfl, hrd, ?_, ?_⟩⟩
    · show (0 + n) * 97 ≤ _
      omega
    (conv => whnf)
    exact ⟨rfl, by rw [Nat.zero_add]; rfl⟩
theorem cloneNil (H : Hp) : CallO Tryz.prog 65 [pv (.slice none 0 0)] H [] fun e H' G' => e = .ret (pv (.slice none 0 0)) ∧ H' = H ∧ G' = [] := by
  refine CallO.of_body tab Tryz.func65 rfl (nt := Tryz.f65.ntmps) rfl (by kernel_rfl) ?_
  (conv => whnf)
  exact ⟨rfl, rfl, rfl⟩
theorem obj_ (ms : List (ByteArray × J)) (hml : ms.length ≤ 1000000) (A : Option Addr) (c : Nat) (zs : List Value) (H : Hp) (hm : MsAt H ms zs) (hv : RdV H A zs) (h0 : 0 < ms.length) :
    CallO Tryz.prog 22 [pv (.slice A ms.length c)] H [] fun e H' G' => (∃ B d, e = .ret (agJ 6 false ⟨#[]⟩ none 0 0 B ms.length d) ∧ JAt H' (objJ ms) [.int .i64 6, .bool false, .string ⟨#[]⟩, .slice none 0 0, .slice B ms.length d]) ∧ G' = [] := by
  have hcl : CallO Tryz.prog 65 [pv (.slice A ms.length c)] H [] fun e H' G' => (∃ B d, e = .ret (pv (.slice B ms.length d)) ∧ RdV H' B zs) ∧ G' = [] := by
    refine CallO.sub (CallO.frz (K := fun e H' G' => (∃ B d, e = .ret (pv (.slice B ms.length d)) ∧ RdV H' B zs) ∧ G' = [.dead]) (clone0 A ms.length c zs hm.length (ones_Ms hm) h0 hml H hv) ?_) ?_
    · rintro e H' G' hle ⟨rfl, rfl⟩
      refine ⟨0, 52, 6, _, _, rfl, fun hz => absurd hz (by omega), fun x H2 hle2 hfr => ?_⟩
      rcases hfr with ⟨rfl, h1, h2⟩ | ⟨g, o, cap, rfl, _, h2⟩
      · omega
      · exact ⟨⟨_, cap, rfl, fun e => (nomatch e), fun a e => by injection e with e; subst e; exact h2⟩, rfl⟩
    · rintro e H' G' hle ⟨⟨B, d, rfl, hv⟩, rfl⟩
      exact ⟨_, [], [], rfl, trivial, rfl, ⟨B, d, rfl, hv⟩, rfl⟩
  refine CallO.of_body tab Tryz.func22 rfl (nt := Tryz.f22.ntmps) rfl (by kernel_rfl) ?_
  (conv => whnf)
  refine ⟨⟨_, Tryz.func65, rfl, by kernel_rfl⟩, CallS.use hcl [] rfl rfl trivial ?_⟩
  rintro e H1 G' hle1 ⟨⟨B, d, rfl, hv1⟩, rfl⟩
  (conv => whnf)
  exact ⟨⟨B, d, rfl, .mk rfl .nil (RdV.nil _) rfl (hm.mono hle1) hv1⟩, rfl⟩
theorem objNil (H : Hp) : CallO Tryz.prog 22 [pv (.slice none 0 0)] H [] fun e H' G' => e = .ret (agJ 6 false ⟨#[]⟩ none 0 0 none 0 0) ∧ H' = H ∧ G' = [] := by
  refine CallO.of_body tab Tryz.func22 rfl (nt := Tryz.f22.ntmps) rfl (by kernel_rfl) ?_
  (conv => whnf)
  refine ⟨⟨_, Tryz.func65, rfl, by kernel_rfl⟩, CallS.use (cloneNil H) [] rfl rfl trivial ?_⟩
  rintro e H1 G' hle1 ⟨rfl, rfl, rfl⟩
  (conv => whnf)
  exact ⟨rfl, rfl, rfl⟩
def sameP (a b : J) : Bool := rightJ a && rightJ b && (wrJ a == wrJ b)
theorem same_ (a b : J) (ha : smJ a) (hb : smJ b) (hla : 6 * (wrJ a).length ≤ 8000000) (hlb : 6 * (wrJ b).length ≤ 8000000)
    (k : Int) (y : Bool) (t : ByteArray) (A : Option Addr) (n c : Nat) (B : Option Addr) (m d : Nat) (k2 : Int) (y2 : Bool) (t2 : ByteArray) (A2 : Option Addr) (n2 c2 : Nat) (B2 : Option Addr) (m2 d2 : Nat) (H : Hp)
    (hj : JAt H a [.int .i64 k, .bool y, .string t, .slice A n c, .slice B m d]) (hj2 : JAt H b [.int .i64 k2, .bool y2, .string t2, .slice A2 n2 c2, .slice B2 m2 d2]) :
    CallO Tryz.prog 21 [agJ k y t A n c B m d, agJ k2 y2 t2 A2 n2 c2 B2 m2 d2] H [] fun e H' G' => e = .ret (pv (.bool (sameP a b))) ∧ H.Le H' ∧ G' = [] := by
  refine CallO.of_body tab Tryz.func21 rfl (nt := Tryz.f21.ntmps) rfl (by kernel_rfl) ?_
  (conv => whnf)
  refine ⟨⟨_, Tryz.func17, rfl, by kernel_rfl⟩, CallS.use (print_ a ha hla k y t A n c B m d H hj) [] rfl rfl trivial ?_⟩
  rintro e H1 G' hle1 ⟨rfl, hl1, rfl⟩
  (conv => whnf)
  refine ⟨⟨_, Tryz.func17, rfl, by kernel_rfl⟩, CallS.use (print_ b hb hlb k2 y2 t2 A2 n2 c2 B2 m2 d2 H1 (hj2.mono hl1)) [] rfl rfl trivial ?_⟩
  rintro e H2 G' hle2 ⟨rfl, hl2, rfl⟩
  unfold sameP printP
  cases ra : rightJ a <;> cases rb : rightJ b
  all_goals (conv => whnf)
  all_goals refine ⟨congrArg (fun b => SE.ret (pv (.bool b))) ?_, hl1.trans hl2, rfl⟩
  all_goals first
    | rfl
    | (rw [Bool.true_and, Bool.true_and, Bool.eq_iff_iff, strEq_iff, beq_iff_eq]
       constructor
       · intro h; have := congrArg (fun b : ByteArray => b.data.toList) h; simpa using this
       · intro h; rw [h])
end Go.Kx.Ob
namespace Go.Proofs
open Go.Shelf
def Tryz.laysParse_ren : Go.Shelf.Ren := ⟨fun | 174 => 108 | 247 => 150 | 245 => 151 | 287 => 181 | 279 => 182 | 280 => 183 | 281 => 184 | 282 => 185 | 321 => 222 | 322 => 223 | 316 => 224 | 171 => 66 | 205 => 225 | 243 => 110 | 246 => 152 | 283 => 186 | 284 => 187 | 285 => 188 | 286 => 189 | 129 => 221 | 317 => 226 | 318 => 227 | 319 => 228 | 320 => 229 | 337 => 249 | 338 => 250 | n => n, fun | 9 => 9 | 3 => 3 | 2 => 2 | 75 => 138 | 85 => 146 | 4 => 4 | 167 => 210 | 5 => 5 | 53 => 211 | 175 => 212 | 46 => 186 | 168 => 214 | 37 => 55 | 0 => 0 | 210 => 253 | 21 => 21 | 127 => 145 | 145 => 273 | 143 => 271 | 171 => 217 | 173 => 220 | 212 => 256 | 51 => 196 | 20 => 20 | 213 => 257 | 232 => 280 | 233 => 281 | 80 => 42 | n => n, fun | 15 => 3 | 16 => 4 | 17 => 5 | 18 => 6 | 19 => 7 | n => n⟩
theorem Tryz.laysParse : Go.Proofs.LaysC.n174 Tryz.prog Tryz.laysParse_ren where
  mixed := by kernel_rfl
  f129 := Tryz.func221.trans (congrArg some (by kernel_rfl))
  f171 := Tryz.func66.trans (congrArg some (by kernel_rfl))
  f174 := Tryz.func108.trans (congrArg some (by kernel_rfl))
  f205 := Tryz.func225.trans (congrArg some (by kernel_rfl))
  f243 := Tryz.func110.trans (congrArg some (by kernel_rfl))
  f245 := Tryz.func151.trans (congrArg some (by kernel_rfl))
  f246 := Tryz.func152.trans (congrArg some (by kernel_rfl))
  f247 := Tryz.func150.trans (congrArg some (by kernel_rfl))
  f279 := Tryz.func182.trans (congrArg some (by kernel_rfl))
  f280 := Tryz.func183.trans (congrArg some (by kernel_rfl))
  f281 := Tryz.func184.trans (congrArg some (by kernel_rfl))
  f282 := Tryz.func185.trans (congrArg some (by kernel_rfl))
  f283 := Tryz.func186.trans (congrArg some (by kernel_rfl))
  f284 := Tryz.func187.trans (congrArg some (by kernel_rfl))
  f285 := Tryz.func188.trans (congrArg some (by kernel_rfl))
  f286 := Tryz.func189.trans (congrArg some (by kernel_rfl))
  f287 := Tryz.func181.trans (congrArg some (by kernel_rfl))
  f316 := Tryz.func224.trans (congrArg some (by kernel_rfl))
  f317 := Tryz.func226.trans (congrArg some (by kernel_rfl))
  f318 := Tryz.func227.trans (congrArg some (by kernel_rfl))
  f319 := Tryz.func228.trans (congrArg some (by kernel_rfl))
  f320 := Tryz.func229.trans (congrArg some (by kernel_rfl))
  f321 := Tryz.func222.trans (congrArg some (by kernel_rfl))
  f322 := Tryz.func223.trans (congrArg some (by kernel_rfl))
  f337 := Tryz.func249.trans (congrArg some (by kernel_rfl))
  f338 := Tryz.func250.trans (congrArg some (by kernel_rfl))
  t0 := Tryz.underlying0
  a0 := Tryz.isAgg0
  z0 := Tryz.sizeOf0
  v0 := Tryz.zeroValue0
  t2 := Tryz.underlying2
  a2 := Tryz.isAgg2
  z2 := Tryz.sizeOf2
  v2 := Tryz.zeroValue2
  t3 := Tryz.underlying3
  a3 := Tryz.isAgg3
  z3 := Tryz.sizeOf3
  v3 := Tryz.zeroValue3
  t4 := Tryz.underlying4
  a4 := Tryz.isAgg4
  z4 := Tryz.sizeOf4
  v4 := Tryz.zeroValue4
  t5 := Tryz.underlying5
  a5 := Tryz.isAgg5
  z5 := Tryz.sizeOf5
  v5 := Tryz.zeroValue5
  t9 := Tryz.underlying9
  a9 := Tryz.isAgg9
  z9 := Tryz.sizeOf9
  v9 := Tryz.zeroValue9
  t20 := Tryz.underlying20
  a20 := Tryz.isAgg20
  z20 := Tryz.sizeOf20
  v20 := Tryz.zeroValue20
  t21 := Tryz.underlying21
  a21 := Tryz.isAgg21
  z21 := Tryz.sizeOf21
  v21 := Tryz.zeroValue21
  t37 := Tryz.underlying55
  a37 := Tryz.isAgg55
  z37 := Tryz.sizeOf55
  v37 := Tryz.zeroValue55
  t46 := Tryz.underlying186
  a46 := Tryz.isAgg186
  z46 := Tryz.sizeOf186
  v46 := Tryz.zeroValue186
  t51 := Tryz.underlying196
  a51 := Tryz.isAgg196
  z51 := Tryz.sizeOf196
  v51 := Tryz.zeroValue196
  t53 := Tryz.underlying211
  a53 := Tryz.isAgg211
  z53 := Tryz.sizeOf211
  v53 := Tryz.zeroValue211
  t75 := Tryz.underlying138
  a75 := Tryz.isAgg138
  z75 := Tryz.sizeOf138
  v75 := Tryz.zeroValue138
  t85 := Tryz.underlying146
  a85 := Tryz.isAgg146
  z85 := Tryz.sizeOf146
  v85 := Tryz.zeroValue146
  t127 := Tryz.underlying145
  a127 := Tryz.isAgg145
  z127 := Tryz.sizeOf145
  v127 := Tryz.zeroValue145
  t143 := Tryz.underlying271
  a143 := Tryz.isAgg271
  z143 := Tryz.sizeOf271
  v143 := Tryz.zeroValue271
  t145 := Tryz.underlying273
  a145 := Tryz.isAgg273
  z145 := Tryz.sizeOf273
  v145 := Tryz.zeroValue273
  t167 := Tryz.underlying210
  a167 := Tryz.isAgg210
  z167 := Tryz.sizeOf210
  v167 := Tryz.zeroValue210
  t168 := Tryz.underlying214
  a168 := Tryz.isAgg214
  z168 := Tryz.sizeOf214
  v168 := Tryz.zeroValue214
  t171 := Tryz.underlying217
  a171 := Tryz.isAgg217
  z171 := Tryz.sizeOf217
  v171 := Tryz.zeroValue217
  t173 := Tryz.underlying220
  a173 := Tryz.isAgg220
  z173 := Tryz.sizeOf220
  v173 := Tryz.zeroValue220
  t175 := Tryz.underlying212
  a175 := Tryz.isAgg212
  z175 := Tryz.sizeOf212
  v175 := Tryz.zeroValue212
  t210 := Tryz.underlying253
  a210 := Tryz.isAgg253
  z210 := Tryz.sizeOf253
  v210 := Tryz.zeroValue253
  t212 := Tryz.underlying256
  a212 := Tryz.isAgg256
  z212 := Tryz.sizeOf256
  v212 := Tryz.zeroValue256
  t213 := Tryz.underlying257
  a213 := Tryz.isAgg257
  z213 := Tryz.sizeOf257
  t232 := Tryz.underlying280
  a232 := Tryz.isAgg280
  z232 := Tryz.sizeOf280
  v232 := Tryz.zeroValue280
  t233 := Tryz.underlying281
  a233 := Tryz.isAgg281
  z233 := Tryz.sizeOf281
  v233 := Tryz.zeroValue281
  g15 := by kernel_rfl
  g16 := by kernel_rfl
  g17 := by kernel_rfl
  g18 := by kernel_rfl
  g19 := by kernel_rfl
  t80 := Tryz.underlying42
  a80 := Tryz.isAgg42
  z80 := Tryz.sizeOf42
  v80 := Tryz.zeroValue42
  i0 := by kernel_rfl
  i2 := by kernel_rfl
  i3 := by kernel_rfl
  i4 := by kernel_rfl
  i5 := by kernel_rfl
  i9 := by kernel_rfl
  i20 := by kernel_rfl
  i21 := by kernel_rfl
  i37 := by kernel_rfl
  i46 := by kernel_rfl
  i51 := by kernel_rfl
  i53 := by kernel_rfl
  i75 := by kernel_rfl
  i80 := by kernel_rfl
  i85 := by kernel_rfl
  i127 := by kernel_rfl
  i143 := by kernel_rfl
  i145 := by kernel_rfl
  i167 := by kernel_rfl
  i168 := by kernel_rfl
  i171 := by kernel_rfl
  i173 := by kernel_rfl
  i175 := by kernel_rfl
  i210 := by kernel_rfl
  i212 := by kernel_rfl
  i232 := by kernel_rfl
  i233 := by kernel_rfl
  m15 := by kernel_rfl
  m16 := by kernel_rfl
  m17 := by kernel_rfl
  m18 := by kernel_rfl
  m19 := by kernel_rfl
  c0 := by kernel_rfl
  c2 := by kernel_rfl
  c3 := by kernel_rfl
  c4 := by kernel_rfl
  c5 := by kernel_rfl
  c9 := by kernel_rfl
  c20 := by kernel_rfl
  c21 := by kernel_rfl
  c37 := by kernel_rfl
  c46 := by kernel_rfl
  c51 := by kernel_rfl
  c53 := by kernel_rfl
  c75 := by kernel_rfl
  c80 := by kernel_rfl
  c85 := by kernel_rfl
  c127 := by kernel_rfl
  c143 := by kernel_rfl
  c145 := by kernel_rfl
  c167 := by kernel_rfl
  c168 := by kernel_rfl
  c171 := by kernel_rfl
  c173 := by kernel_rfl
  c175 := by kernel_rfl
  c210 := by kernel_rfl
  c212 := by kernel_rfl
  c213 := by kernel_rfl
  c232 := by kernel_rfl
  c233 := by kernel_rfl

end Go.Proofs
namespace Go.Kx.Ob
open Go.Proofs Go.Kx Go.RowKit Go.Kx.Js Go.Kx.Pr Go.Kx.Rt
set_option maxRecDepth 20000
set_option linter.unusedSimpArgs false
def ErrH (H : Hp) : Prop := ∀ g, (g = 3 ∨ g = 4) → ∃ te pe, H g 0 = some (.iface te pe)
theorem ErrH.mono {H H' : Hp} (h : H.Le H') (he : ErrH H) : ErrH H' := fun g hg => let ⟨te, pe, e⟩ := he g hg; ⟨te, pe, h _ _ _ e⟩
theorem parseInt (s : ByteArray) (hs : s.size ≤ 1000000) (H : Hp) (hv : ErrH H) :
    CallO Tryz.prog 108 [pv (.string s), pv (.int .i64 10), pv (.int .i64 64)] H [] fun e H' G' => (∃ (v : Int) (x : Value), e = .ret (.tu [.ce (.val (.int .i64 v)), .ce (.val x)]) ∧ ((Lib.atoiAll s.data.toList = .ok v ∧ x = .nilIface) ∨ ((∀ u, Lib.atoiAll s.data.toList ≠ .ok u) ∧ ∃ te pe, x = .iface te pe))) ∧ H' = H ∧ G' = [] := by
  refine (CallO.of_calls (args := [.string s, .int .i64 10, .int .i64 64]) (R := fun y => ∃ (v : Int) (x : Value), y = .tuple #[.int .i64 v, x] ∧ ((Lib.atoiAll s.data.toList = .ok v ∧ x = .nilIface) ∨ ((∀ u, Lib.atoiAll s.data.toList ≠ .ok u) ∧ ∃ te pe, x = .iface te pe))) fun w hg hin => ?_).mono ?_
  · have ht := Lib.parseIntB_64 s.data.toList
    cases h : Lib.atoiAll s.data.toList
    · rename_i v
      refine (Any.strconv_ParseInt_10_at64_ok Tryz.laysParse s (by omega) v (ht.trans h) w).mono fun e w' ⟨he, hw⟩ => ⟨_, he, ⟨v, _, rfl, .inl ⟨rfl, rfl⟩⟩, ?_⟩
      rcases hw with rfl | ⟨t, rfl⟩
      · exact grown_refl _
      · exact ⟨rfl, rfl, rfl, by rw [Lib.bytesWorld_size]; omega, fun j hj _ => Lib.bytesWorld_at_old w _ t j hj⟩
    · obtain ⟨te, pe, he⟩ := hv 3 (.inl rfl)
      refine (Any.strconv_ParseInt_10_at64_syntax Tryz.laysParse s (by omega) (ht.trans h) _ w (hin _ _ _ he) (.inr ⟨te, pe, rfl⟩)).mono fun e w' ⟨N, he, _, _, hb⟩ => ⟨_, he, ⟨_, _, rfl, .inr ⟨fun u e => (nomatch e), _, _, rfl⟩⟩, grown_of_below hb⟩
    · obtain ⟨te, pe, he⟩ := hv 4 (.inr rfl)
      refine (Any.strconv_ParseInt_10_at64_range Tryz.laysParse s (by omega) (ht.trans h) _ w (hin _ _ _ he) (.inr ⟨te, pe, rfl⟩)).mono fun e w' ⟨N, he, _, _, hb⟩ => ⟨_, he, ⟨_, _, rfl, .inr ⟨fun u e => (nomatch e), _, _, rfl⟩⟩, grown_of_below hb⟩
  · rintro e H' G' hle ⟨y, ⟨v, x, rfl, h⟩, rfl, rfl, rfl⟩
    exact ⟨⟨v, x, rfl, h⟩, rfl, rfl⟩
def intP (j : J) : Int × Bool :=
  if j.kind = 3 ∧ numericP j.text = true then
    match Lib.atoiAll j.text.data.toList with
    | .ok v => if v < -9007199254740992 ∨ v > 9007199254740992 then (0, false) else (v, true)
    | _ => (0, false)
  else (0, false)
theorem int_ (j : J) (hs : j.text.size ≤ 190000) (k : Int) (y : Bool) (t : ByteArray) (A : Option Addr) (n c : Nat) (B : Option Addr) (m d : Nat) (H : Hp) (hE : ErrH H) (hj : JAt H j [.int .i64 k, .bool y, .string t, .slice A n c, .slice B m d]) :
    CallO Tryz.prog 59 [agJ k y t A n c B m d] H [] fun e H' G' => e = .ret (.tu [.ce (.val (.int .i64 (intP j).1)), .ce (.val (.bool (intP j).2))]) ∧ H.Le H' ∧ G' = [] := by
  obtain ⟨rfl, rfl, rfl⟩ : k = j.kind ∧ y = j.yes ∧ t = j.text := by cases hj; exact ⟨rfl, rfl, rfl⟩
  unfold intP
  refine CallO.of_body tab Tryz.func59 rfl (nt := Tryz.f59.ntmps) rfl (by kernel_rfl) ?_
  (conv => whnf)
  refine br.of (fun h1 => ?_) (fun h1 => ?_) <;> (conv => whnf)
  · simp only [bne_iff_ne, ne_eq] at h1
    rw [if_neg (fun h => h1 h.1)]
    exact ⟨rfl, .refl _, rfl⟩
  simp only [bne_eq_false_iff_eq] at h1
  refine ⟨⟨_, Tryz.func99, rfl, by kernel_rfl⟩, CallS.use (numeric_ j.text hs H) [] rfl rfl trivial ?_⟩
  rintro e H2 G' hle ⟨rfl, rfl⟩
  cases hn : numericP j.text
  all_goals (conv => whnf)
  · rw [if_neg (by simp)]
    exact ⟨rfl, hle, rfl⟩
  rw [if_pos ⟨h1, rfl⟩]
  refine ⟨⟨_, Tryz.func108, rfl, by kernel_rfl⟩, CallS.use (parseInt j.text (by omega) H2 (hE.mono hle)) [] rfl rfl trivial ?_⟩
  rintro e H3 G' hle2 ⟨⟨v, x, rfl, hx⟩, rfl, rfl⟩
  rcases hx with ⟨hv, rfl⟩ | ⟨hv, te, pe, rfl⟩
  all_goals (conv => whnf)
  · rw [hv]
    refine br.of (fun h2 => ?_) (fun h2 => ?_) <;> (conv => whnf)
    · have h2 := of_decide_eq_true h2
      simp only [if_pos (show v < -9007199254740992 ∨ v > 9007199254740992 by omega)]
      exact ⟨trivial, hle, rfl⟩
    have h2 := of_decide_eq_false h2
    refine br.of (fun h3 => ?_) (fun h3 => ?_) <;> (conv => whnf)
    · have h3 := of_decide_eq_true h3
      simp only [if_pos (show v < -9007199254740992 ∨ v > 9007199254740992 by omega)]
      exact ⟨trivial, hle, rfl⟩
    have h3 := of_decide_eq_false h3
    simp only [if_neg (show ¬ (v < -9007199254740992 ∨ v > 9007199254740992) by omega)]
    exact ⟨trivial, hle, rfl⟩
  · cases hh : Lib.atoiAll j.text.data.toList with
    | ok u => exact absurd hh (hv u)
    | _ => exact ⟨rfl, hle, rfl⟩
end Go.Kx.Ob
namespace Go.Proofs.YtfchdibbjaeocaaGreatDoor.RowLaid
open Go.ChangeShapes Go.WideShapes Go.ChangeAt Go.RowKit Go.Kx Go.Proofs

def laid : List (String × DataW Unit) := [("math/bits.deBruijn32tab", Rows.laid_math_bits_deBruijn32tab), ("math/bits.deBruijn64tab", Rows.laid_math_bits_deBruijn64tab), ("internal/strconv.uint64pow10", Rows.laid_internal_strconv_uint64pow10), ("unicode/utf8.acceptRanges", Rows.laid_unicode_utf8_acceptRanges), ("strconv.ErrRange", Rows.laid_strconv_ErrRange), ("strconv.ErrSyntax", Rows.laid_strconv_ErrSyntax), ("unicode/utf8.first", Rows.laid_unicode_utf8_first)]
theorem own : ownKnob Tryz.prog.godebug = none := by kernel_rfl
theorem laidOut : laidOutB Tryz.prog = true := by kernel_rfl
theorem star : "*" ++ "errors.errorString" = "*errors.errorString" := by decide
theorem rowE (u : TypeId) (h : Tryz.prog.typeName? 3 u = some "*errors.errorString") : u = 271 :=
  typeName_ptr_named (nm := "errors.errorString") (by rw [star]; kernel_rfl) (by kernel_rfl) (by decide) u (by rw [star]; exact h)
theorem gP : Tryz.prog.globalNamed "internal/strconv.uint64pow10" = some 5 := by kernel_rfl
theorem gS : Tryz.prog.globalNamed "strconv.ErrSyntax" = some 3 := by kernel_rfl
theorem gR : Tryz.prog.globalNamed "strconv.ErrRange" = some 4 := by kernel_rfl
theorem one {W : World} (h : laidMetH Tryz.prog laid W) (nm : String) (d : DataW Unit) (e : laid.filter (fun x => x.1 == nm) = [(nm, d)]) (hp : d.handleName?.isNone = true) : laidMet Tryz.prog [(nm, d)] W := by
  have h1 := h.filter fun x => x.1 == nm
  rw [e, Go.MakeChecks.laidMetH_plain _ _ _ (by simp [hp])] at h1
  exact h1
theorem gd {W : World} (h : laidMetH Tryz.prog laid W) : Gd W fun _ => False := by
  have h1 := one h "internal/strconv.uint64pow10" Rows.laid_internal_strconv_uint64pow10 (by kernel_rfl) (by kernel_rfl)
  have h2 : laidMet Tryz.prog [("internal/strconv.uint64pow10", Lib.tabData .u64 Lib.pow10Tab)] W := by
    rw [show (Lib.tabData .u64 Lib.pow10Tab : DataW Unit) = Rows.laid_internal_strconv_uint64pow10 by kernel_rfl]
    exact h1
  have h3 : W.var? Tryz.prog "internal/strconv.uint64pow10" = some (Lib.pow10Tab.map fun z => Value.int .u64 z).toArray := Lib.tabIs_of_head gP (by kernel_rfl) Tryz.underlying256 Tryz.underlying211 (by kernel_rfl) (by kernel_rfl) h2
  unfold World.var? at h3
  rw [gP] at h3
  simp only [Option.bind_some] at h3
  intro g cs hg
  refine ⟨?_, fun hf => hf⟩
  unfold Gl at hg
  split at hg
  · rename_i hb
    subst hb
    injection hg with hg
    subst hg
    split at h3
    · rename_i cs t z hh
      injection h3 with h3
      subst h3
      exact ⟨t, z, by rw [hh]; rfl⟩
    · cases h3
  · cases hg
theorem errH {W : World} (h : laidMetH Tryz.prog laid W) : Go.Kx.Ob.ErrH (heapOf W) := by
  rintro g (rfl | rfl)
  · have h1 := one h "strconv.ErrSyntax" Rows.laid_strconv_ErrSyntax (by kernel_rfl) (by kernel_rfl)
    obtain ⟨a1, s1, hv1, hc1, hs1, hz1⟩ := laid_sentinel h1 gS (by kernel_rfl) (ti := 138) Tryz.underlying138 rowE Tryz.underlying271 Tryz.underlying273 rfl rfl Tryz.underlying9 (by kernel_rfl) (by kernel_rfl)
    exact ⟨_, _, by simpa [heapOf] using World.var?_cell gS hv1 0⟩
  · have h1 := one h "strconv.ErrRange" Rows.laid_strconv_ErrRange (by kernel_rfl) (by kernel_rfl)
    obtain ⟨a1, s1, hv1, hc1, hs1, hz1⟩ := laid_sentinel h1 gR (by kernel_rfl) (ti := 138) Tryz.underlying138 rowE Tryz.underlying271 Tryz.underlying273 rfl rfl Tryz.underlying9 (by kernel_rfl) (by kernel_rfl)
    exact ⟨_, _, by simpa [heapOf] using World.var?_cell gR hv1 0⟩
noncomputable def low (os : Os) : Nat := (World.holding Tryz.prog os ⟨#[], #[], []⟩).heap.size
def rangeS : ByteArray := ⟨#[118, 97, 108, 117, 101, 32, 111, 117, 116, 32, 111, 102, 32, 114, 97, 110, 103, 101]⟩
def syntaxS : ByteArray := ⟨#[105, 110, 118, 97, 108, 105, 100, 32, 115, 121, 110, 116, 97, 120]⟩
def litsOf : DataW Unit → Array Value
  | .agg l => (l.flatMap fun
    | .lit (.int k v) => [Value.int k v]
    | .agg m => m.filterMap fun
      | .lit (.int k v) => some (Value.int k v)
      | _ => none
    | _ => []).toArray
  | _ => #[]
noncomputable def laidWorld (os : Os) : World :=
  let w0 := World.holding Tryz.prog os ⟨#[.cells #[.string rangeS] 273, .cells #[.string syntaxS] 273], #[], []⟩
  { w0 with heap := ((((((w0.heap.modify 6 fun
      | .cells _ t z => .cells (litsOf Rows.laid_math_bits_deBruijn32tab) t z
      | o => o).modify 7 fun
      | .cells _ t z => .cells (litsOf Rows.laid_math_bits_deBruijn64tab) t z
      | o => o).modify 5 fun
      | .cells _ t z => .cells (litsOf Rows.laid_internal_strconv_uint64pow10) t z
      | o => o).modify 2 fun
      | .cells _ t z => .cells (litsOf Rows.laid_unicode_utf8_acceptRanges) t z
      | o => o).modify 1 fun
      | .cells _ t z => .cells (litsOf Rows.laid_unicode_utf8_first) t z
      | o => o).modify 4 fun
      | .cells _ t z => .cells #[.iface 271 (.pointer (some ⟨low os, 0, Option.none⟩))] t z
      | o => o).modify 3 fun
      | .cells _ t z => .cells #[.iface 271 (.pointer (some ⟨low os + 1, 0, Option.none⟩))] t z
      | o => o }
theorem laidWorld_met (os : Os) (args : Array Value) : laidMetH Tryz.prog laid ((laidWorld os).forCall (fun _ _ => 0) ⟨#[], args, []⟩).memory := by
  rw [Go.MakeChecks.laidMetH_plain _ _ _ (by kernel_rfl)]
  exact laidMet_of_run' 8 (by kernel_rfl) (by kernel_rfl)
end Go.Proofs.YtfchdibbjaeocaaGreatDoor.RowLaid
namespace Go.Proofs
open Go.Shelf
def Tryz.laysGen_ren : Go.Shelf.Ren := ⟨fun | 221 => 169 | 268 => 208 | 138 => 142 | 143 => 174 | 195 => 172 | 197 => 126 | 218 => 173 | 219 => 210 | 260 => 164 | 217 => 171 | 225 => 240 | 224 => 241 | 267 => 242 | 266 => 209 | 314 => 252 | n => n, fun | 9 => 9 | 3 => 3 | 31 => 69 | 4 => 4 | 0 => 0 | 105 => 170 | 21 => 21 | 5 => 5 | 46 => 186 | 119 => 236 | 139 => 239 | 138 => 238 | 146 => 275 | 51 => 196 | n => n, fun | 1 => 0 | 3 => 1 | 4 => 2 | n => n⟩
theorem Tryz.laysGen : Go.Proofs.Lays.n221 Tryz.prog Tryz.laysGen_ren where
  mixed := by kernel_rfl
  f138 := Tryz.func142.trans (congrArg some (by kernel_rfl))
  f143 := Tryz.func174.trans (congrArg some (by kernel_rfl))
  f195 := Tryz.func172.trans (congrArg some (by kernel_rfl))
  f197 := Tryz.func126.trans (congrArg some (by kernel_rfl))
  f217 := Tryz.func171.trans (congrArg some (by kernel_rfl))
  f218 := Tryz.func173.trans (congrArg some (by kernel_rfl))
  f219 := Tryz.func210.trans (congrArg some (by kernel_rfl))
  f221 := Tryz.func169.trans (congrArg some (by kernel_rfl))
  f224 := Tryz.func241.trans (congrArg some (by kernel_rfl))
  f225 := Tryz.func240.trans (congrArg some (by kernel_rfl))
  f260 := Tryz.func164.trans (congrArg some (by kernel_rfl))
  f266 := Tryz.func209.trans (congrArg some (by kernel_rfl))
  f267 := Tryz.func242.trans (congrArg some (by kernel_rfl))
  f268 := Tryz.func208.trans (congrArg some (by kernel_rfl))
  f314 := Tryz.func252.trans (congrArg some (by kernel_rfl))
  t0 := Tryz.underlying0
  a0 := Tryz.isAgg0
  z0 := Tryz.sizeOf0
  v0 := Tryz.zeroValue0
  t3 := Tryz.underlying3
  a3 := Tryz.isAgg3
  z3 := Tryz.sizeOf3
  v3 := Tryz.zeroValue3
  t4 := Tryz.underlying4
  a4 := Tryz.isAgg4
  z4 := Tryz.sizeOf4
  v4 := Tryz.zeroValue4
  t5 := Tryz.underlying5
  a5 := Tryz.isAgg5
  z5 := Tryz.sizeOf5
  v5 := Tryz.zeroValue5
  t9 := Tryz.underlying9
  a9 := Tryz.isAgg9
  z9 := Tryz.sizeOf9
  v9 := Tryz.zeroValue9
  t21 := Tryz.underlying21
  a21 := Tryz.isAgg21
  z21 := Tryz.sizeOf21
  v21 := Tryz.zeroValue21
  t31 := Tryz.underlying69
  a31 := Tryz.isAgg69
  z31 := Tryz.sizeOf69
  v31 := Tryz.zeroValue69
  t46 := Tryz.underlying186
  a46 := Tryz.isAgg186
  z46 := Tryz.sizeOf186
  v46 := Tryz.zeroValue186
  t51 := Tryz.underlying196
  a51 := Tryz.isAgg196
  z51 := Tryz.sizeOf196
  v51 := Tryz.zeroValue196
  t105 := Tryz.underlying170
  a105 := Tryz.isAgg170
  z105 := Tryz.sizeOf170
  v105 := Tryz.zeroValue170
  t119 := Tryz.underlying236
  a119 := Tryz.isAgg236
  z119 := Tryz.sizeOf236
  t138 := Tryz.underlying238
  a138 := Tryz.isAgg238
  z138 := Tryz.sizeOf238
  v138 := Tryz.zeroValue238
  t139 := Tryz.underlying239
  a139 := Tryz.isAgg239
  z139 := Tryz.sizeOf239
  v139 := Tryz.zeroValue239
  t146 := Tryz.underlying275
  a146 := Tryz.isAgg275
  z146 := Tryz.sizeOf275
  v146 := Tryz.zeroValue275
  g1 := by kernel_rfl
  g3 := by kernel_rfl
  g4 := by kernel_rfl
def Tryz.laysCount_ren : Go.Shelf.Ren := ⟨fun | 138 => 142 | 195 => 172 | 218 => 173 | 143 => 174 | 219 => 210 | 217 => 171 | 225 => 240 | 224 => 241 | 267 => 242 | 266 => 209 | 314 => 252 | n => n, fun | 9 => 9 | 3 => 3 | 4 => 4 | 5 => 5 | 0 => 0 | 46 => 186 | 146 => 275 | 51 => 196 | n => n, fun | 1 => 0 | n => n⟩
theorem Tryz.laysCount : Go.Proofs.Lays.n138 Tryz.prog Tryz.laysCount_ren where
  mixed := by kernel_rfl
  f138 := Tryz.func142.trans (congrArg some (by kernel_rfl))
  f143 := Tryz.func174.trans (congrArg some (by kernel_rfl))
  f195 := Tryz.func172.trans (congrArg some (by kernel_rfl))
  f217 := Tryz.func171.trans (congrArg some (by kernel_rfl))
  f218 := Tryz.func173.trans (congrArg some (by kernel_rfl))
  f219 := Tryz.func210.trans (congrArg some (by kernel_rfl))
  f224 := Tryz.func241.trans (congrArg some (by kernel_rfl))
  f225 := Tryz.func240.trans (congrArg some (by kernel_rfl))
  f266 := Tryz.func209.trans (congrArg some (by kernel_rfl))
  f267 := Tryz.func242.trans (congrArg some (by kernel_rfl))
  f314 := Tryz.func252.trans (congrArg some (by kernel_rfl))
  t0 := Tryz.underlying0
  a0 := Tryz.isAgg0
  z0 := Tryz.sizeOf0
  v0 := Tryz.zeroValue0
  t3 := Tryz.underlying3
  a3 := Tryz.isAgg3
  z3 := Tryz.sizeOf3
  v3 := Tryz.zeroValue3
  t4 := Tryz.underlying4
  a4 := Tryz.isAgg4
  z4 := Tryz.sizeOf4
  v4 := Tryz.zeroValue4
  t5 := Tryz.underlying5
  a5 := Tryz.isAgg5
  z5 := Tryz.sizeOf5
  v5 := Tryz.zeroValue5
  t9 := Tryz.underlying9
  a9 := Tryz.isAgg9
  z9 := Tryz.sizeOf9
  v9 := Tryz.zeroValue9
  t46 := Tryz.underlying186
  a46 := Tryz.isAgg186
  z46 := Tryz.sizeOf186
  v46 := Tryz.zeroValue186
  t51 := Tryz.underlying196
  a51 := Tryz.isAgg196
  z51 := Tryz.sizeOf196
  v51 := Tryz.zeroValue196
  t146 := Tryz.underlying275
  a146 := Tryz.isAgg275
  z146 := Tryz.sizeOf275
  v146 := Tryz.zeroValue275
  g1 := by kernel_rfl
def Tryz.laysIndex_ren : Go.Shelf.Ren := ⟨fun | 143 => 174 | 219 => 210 | 217 => 171 | 225 => 240 | 224 => 241 | 267 => 242 | 266 => 209 | 314 => 252 | n => n, fun | 9 => 9 | 3 => 3 | 4 => 4 | 5 => 5 | 46 => 186 | 146 => 275 | 51 => 196 | n => n, fun | 1 => 0 | n => n⟩
theorem Tryz.laysIndex : Go.Proofs.Lays.n143 Tryz.prog Tryz.laysIndex_ren where
  mixed := by kernel_rfl
  f143 := Tryz.func174.trans (congrArg some (by kernel_rfl))
  f217 := Tryz.func171.trans (congrArg some (by kernel_rfl))
  f219 := Tryz.func210.trans (congrArg some (by kernel_rfl))
  f224 := Tryz.func241.trans (congrArg some (by kernel_rfl))
  f225 := Tryz.func240.trans (congrArg some (by kernel_rfl))
  f266 := Tryz.func209.trans (congrArg some (by kernel_rfl))
  f267 := Tryz.func242.trans (congrArg some (by kernel_rfl))
  f314 := Tryz.func252.trans (congrArg some (by kernel_rfl))
  t3 := Tryz.underlying3
  a3 := Tryz.isAgg3
  z3 := Tryz.sizeOf3
  v3 := Tryz.zeroValue3
  t4 := Tryz.underlying4
  a4 := Tryz.isAgg4
  z4 := Tryz.sizeOf4
  v4 := Tryz.zeroValue4
  t5 := Tryz.underlying5
  a5 := Tryz.isAgg5
  z5 := Tryz.sizeOf5
  v5 := Tryz.zeroValue5
  t9 := Tryz.underlying9
  a9 := Tryz.isAgg9
  z9 := Tryz.sizeOf9
  v9 := Tryz.zeroValue9
  t46 := Tryz.underlying186
  a46 := Tryz.isAgg186
  z46 := Tryz.sizeOf186
  v46 := Tryz.zeroValue186
  t51 := Tryz.underlying196
  a51 := Tryz.isAgg196
  z51 := Tryz.sizeOf196
  v51 := Tryz.zeroValue196
  t146 := Tryz.underlying275
  a146 := Tryz.isAgg275
  z146 := Tryz.sizeOf275
  v146 := Tryz.zeroValue275
  g1 := by kernel_rfl

end Go.Proofs
namespace Go.Kx.Pa
open Go.Proofs Go.Kx Go.RowKit Go.Sort
set_option maxRecDepth 20000
set_option linter.unusedSimpArgs false
theorem mixed : Tryz.prog.follows .mixedOrders = true := by kernel_rfl
def T : Tab := [(9, { k := TK.string, agg := false, size := 1, bytes := 16, zero := [Z.s] }), (5, { k := TK.int IntKind.u8, agg := false, size := 1, bytes := 1, zero := [Z.i IntKind.u8] }), (69, { k := TK.slice 9, agg := false, size := 1, bytes := 24, zero := [Z.sl] }), (3, { k := TK.int IntKind.i64, agg := false, size := 1, bytes := 8, zero := [Z.i IntKind.i64] }), (4, { k := TK.bool, agg := false, size := 1, bytes := 1, zero := [Z.b] })]
set_option maxRecDepth 100000 in
theorem tab : TabOk Tryz.prog T := tabOk_mk (ts := [9, 5, 69, 3, 4]) (by kernel_rfl)
def VAt (H : Hp) (A : Option Addr) (n : Nat) (vs : List Value) : Prop := n = vs.length ∧ (A = none → vs = []) ∧ ∀ a, A = some a → RdN H (some a) 0 vs
theorem VAt.mono {H H' : Hp} (h : H.Le H') {A : Option Addr} {n : Nat} {vs : List Value} (hb : VAt H A n vs) : VAt H' A n vs := ⟨hb.1, hb.2.1, fun a e => (hb.2.2 a e).mono h⟩
theorem VAt.of_frozen {H : Hp} {x : Value} {n : Nat} {vs : List Value} (hn : n = vs.length) (h : Frozen H x n vs) : ∃ A cap, x = .slice A n cap ∧ VAt H A n vs := by
  rcases h with ⟨rfl, h1, h2⟩ | ⟨g, o, cap, rfl, _, h2⟩
  · subst h1
    exact ⟨none, 0, rfl, hn, fun _ => h2, fun a e => (nomatch e)⟩
  · exact ⟨_, cap, rfl, hn, fun e => (nomatch e), fun a e => by injection e with e; subst e; exact h2⟩
theorem VAt.get {H : Hp} {A : Option Addr} {n : Nat} {vs : List Value} (h : VAt H A n vs) {i : Nat} {v : Value} (hi : vs[i]? = some v) {off : Nat} (ho : off = i) : RdC H A off v := by
  subst ho
  obtain ⟨h1, h2, h3⟩ := h
  cases A with
  | none => rw [h2 rfl] at hi; simp at hi
  | some a =>
    obtain ⟨b, o, e1, h4⟩ := h3 a rfl
    exact ⟨b, o, e1, by simpa using h4 _ _ hi⟩
theorem VAt.addr {H : Hp} {A : Option Addr} {n : Nat} {vs : List Value} (h : VAt H A n vs) (h0 : 0 < n) : ∃ b o, A = some ⟨b, o, none⟩ := by
  obtain ⟨h1, h2, h3⟩ := h
  cases A with
  | none => rw [h2 rfl] at h1; simp at h1; omega
  | some a =>
    obtain ⟨b, o, e1, _⟩ := h3 a rfl
    exact ⟨b, o, e1⟩
def stC (L : List (List UInt8)) : List Value := L.map fun l => .string ⟨l.toArray⟩
theorem stC_strs (L : List (List UInt8)) : So.strs L = stC L := rfl
theorem stC_snoc (L : List (List UInt8)) (l : List UInt8) : stC (L ++ [l]) = stC L ++ [.string ⟨l.toArray⟩] := by unfold stC; rw [List.map_append]; rfl
theorem stC_len (L : List (List UInt8)) : (stC L).length = L.length := by unfold stC; simp
def partsL (c : UInt8) : List UInt8 → List UInt8 → List (List UInt8)
  | cur, [] => [cur]
  | cur, x :: r => if x = c then cur :: partsL c [] r else partsL c (cur ++ [x]) r
theorem partsL_len (c : UInt8) : ∀ (r cur : List UInt8), (partsL c cur r).length ≤ r.length + 1
  | [], cur => by simp [partsL]
  | x :: r, cur => by
    unfold partsL
    split
    · have := partsL_len c r []; simp only [List.length_cons]; omega
    · have := partsL_len c r (cur ++ [x]); simp only [List.length_cons]; omega
theorem bAt (s : ByteArray) (i : Nat) (h : i < s.size) : ∃ c : UInt8, s.data.toList[i]? = some c ∧ byteAt s (i : Int) = (c.toNat : Int) := by
  have hl : i < s.data.toList.length := by rw [Array.length_toList]; exact h
  refine ⟨s.data.toList[i]'hl, List.getElem?_eq_getElem _, ?_⟩
  unfold byteAt
  rw [Int.toNat_natCast, List.getD_eq_getElem?_getD, List.getElem?_eq_getElem hl]
  rfl
def PI (s : ByteArray) (c : UInt8) (H : Hp) (k : Nat) (F : Fr) (H2 : Hp) (G : List SB) : Prop :=
  ∃ (i last : Nat) (L : List (List UInt8)), i ≤ s.size + 1 ∧ last ≤ i ∧ L.length ≤ i ∧ k = s.size + 1 - i ∧ (i ≤ s.size → L ++ partsL c ((s.data.toList.drop last).take (i - last)) (s.data.toList.drop i) = partsL c [] s.data.toList) ∧ (i = s.size + 1 → L = partsL c [] s.data.toList) ∧
    F = [(0, pv (.string s)), (1, pv (.int .u8 c.toNat)), (5, .si (.ce (.self 0))), (6, pv (.int .i64 last)), (7, pv (.int .i64 i))] ∧ H.Le H2 ∧ G = [.row 9 1 L.length (stC L)]
theorem parts0 (s : ByteArray) (hs : s.size ≤ 1000000) (c : UInt8) (H : Hp) : CallO Tryz.prog 97 [pv (.string s), pv (.int .u8 c.toNat)] H [] fun e _ G' => e = .ret (.si (.ce (.self 0))) ∧ G' = [.row 9 1 (partsL c [] s.data.toList).length (stC (partsL c [] s.data.toList))] := by
  have hsl : s.data.toList.length = s.size := by rw [Array.length_toList]; rfl
  refine CallO.of_body tab Tryz.func97 rfl (nt := Tryz.f97.ntmps) rfl (by kernel_rfl) ?_
  (conv => whnf)
  refine WS.nilRow 5 9 1 rfl ?_
  (conv => whnf)
  refine WS.loop (PI s c H) (s.size + 2) ?_ ?_
  · refine ⟨s.size + 1, by omega, _, _, [0], ⟨0, 0, [], by omega, by omega, Nat.le_refl _, rfl, fun _ => by simp, fun h => by omega, rfl, .refl _, rfl⟩, ?_⟩
    exact ⟨rfl, ⟨rfl, trivial⟩, rfl, rfl, rfl, rfl, rfl, trivial⟩
  rintro k F H2 G hle ⟨i, last, L, hi, hli, hLl, rfl, h1, h2, rfl, hle2, rfl⟩
  refine codeL.go tab ?_
  (conv => whnf)
  refine br.of (fun h3 => ?_) (fun h3 => ?_) <;> (conv => whnf)
  · simp only [decide_eq_true_eq] at h3
    have hin : i ≤ s.size := by omega
    have h1 := h1 hin
    clear h2
    have hcut : ∀ e, s.extract last i = e → (⟨((s.data.toList.drop last).take (i - last)).toArray⟩ : ByteArray) = e := by
      rintro e rfl
      have := Lib.extract_mk s.data.toList last i
      rw [← this]
    refine br.of (fun h4 => ?_) (fun h4 => ?_) <;> (conv => whnf)
    · simp only [beq_iff_eq] at h4
      obtain rfl : i = s.size := by omega
      refine ⟨⟨by omega, by omega, by omega⟩, ?_⟩
      (conv => whnf)
      refine ⟨by decide, ?_⟩
      (conv => whnf)
      refine .inl ?_
      intro g H3 hle3 hrd
      (conv => whnf)
      refine ⟨_, rfl, hrd, fun u hu => by rcases List.mem_singleton.1 hu with rfl; rfl, ?_⟩
      (conv => whnf)
      refine ⟨by show (L.length + 1) * 17 ≤ _; omega, ?_⟩
      (conv => whnf)
      rw [wrap64 (x := (s.size : Int) + 1) (by omega) (by omega)]
      have hex : (Value.string (s.extract (last : Int).toNat (s.size : Int).toNat)) = .string ⟨((s.data.toList.drop last).take (s.size - last)).toArray⟩ := by
        rw [hcut _ rfl]; rfl
      rw [hex]
      refine ⟨s.size + 1 - (s.size + 1), by omega, _, [.row 9 1 (L ++ [(s.data.toList.drop last).take (s.size - last)]).length (stC (L ++ [(s.data.toList.drop last).take (s.size - last)]))], [1], ⟨s.size + 1, s.size + 1, L ++ [(s.data.toList.drop last).take (s.size - last)], by omega, by omega, by simp; omega, rfl, fun hh => ?_, fun hh => ?_, rfl, hle2.trans hle3, rfl⟩, ?_⟩
      · omega
      · rw [← h1, List.drop_of_length_le (show s.data.toList.length ≤ s.size by omega), partsL]
      · refine ⟨rfl, ⟨?_, trivial⟩, rfl, rfl, rfl, rfl, rfl, trivial⟩
        rw [stC_snoc, List.length_append]; rfl
    · simp only [beq_eq_false_iff_ne, ne_eq] at h4
      refine ⟨⟨by omega, by omega⟩, ?_⟩
      obtain ⟨x, hx, hv⟩ := bAt s i (by omega)
      rw [hv]
      have hd : s.data.toList.drop i = x :: s.data.toList.drop (i + 1) := by
        rw [List.drop_eq_getElem?_toList_append, hx]; rfl
      rw [hd, partsL] at h1
      (conv => whnf)
      refine br.of (fun h5 => ?_) (fun h5 => ?_) <;> (conv => whnf)
      · simp only [beq_iff_eq] at h5
        have hxc : x = c := by
          have : x.toNat = c.toNat := by omega
          exact UInt8.toNat_inj.1 this
        refine ⟨⟨by omega, by omega, by omega⟩, ?_⟩
        (conv => whnf)
        refine ⟨by decide, ?_⟩
        (conv => whnf)
        refine .inl ?_
        intro g H3 hle3 hrd
        (conv => whnf)
        refine ⟨_, rfl, hrd, fun u hu => by rcases List.mem_singleton.1 hu with rfl; rfl, ?_⟩
        (conv => whnf)
        refine ⟨by show (L.length + 1) * 17 ≤ _; omega, ?_⟩
        (conv => whnf)
        rw [wrap64 (x := (i : Int) + 1) (by omega) (by omega)]
        have hex : (Value.string (s.extract (last : Int).toNat (i : Int).toNat)) = .string ⟨((s.data.toList.drop last).take (i - last)).toArray⟩ := by
          rw [hcut _ rfl]; rfl
        rw [hex]
        refine ⟨s.size + 1 - (i + 1), by omega, _, [.row 9 1 (L ++ [(s.data.toList.drop last).take (i - last)]).length (stC (L ++ [(s.data.toList.drop last).take (i - last)]))], [1], ⟨i + 1, i + 1, L ++ [(s.data.toList.drop last).take (i - last)], by omega, by omega, by simp; omega, rfl, fun hh => ?_, fun hh => ?_, rfl, hle2.trans hle3, rfl⟩, ?_⟩
        · rw [← h1, if_pos hxc, List.append_assoc]
          rw [Nat.sub_self, List.take_zero]; rfl
        · rw [← h1, if_pos hxc]
          have : i + 1 = s.size + 1 := hh
          omega
        · refine ⟨rfl, ⟨?_, trivial⟩, rfl, rfl, rfl, rfl, rfl, trivial⟩
          rw [stC_snoc, List.length_append]; rfl
      · simp only [beq_eq_false_iff_ne, ne_eq] at h5
        have hxc : ¬ x = c := fun h => h5 (by rw [h])
        rw [wrap64 (x := (i : Int) + 1) (by omega) (by omega)]
        refine ⟨s.size + 1 - (i + 1), by omega, _, _, [0], ⟨i + 1, last, L, by omega, by omega, by omega, rfl, fun hh => ?_, fun hh => by omega, rfl, hle2, rfl⟩, ?_⟩
        · rw [← h1, if_neg hxc]
          congr 2
          have e : i + 1 - last = (i - last) + 1 := by omega
          rw [e, List.take_add_one, List.getElem?_drop, show last + (i - last) = i by omega, hx]; rfl
        · exact ⟨rfl, ⟨rfl, trivial⟩, rfl, rfl, rfl, rfl, rfl, trivial⟩
  · simp only [decide_eq_false_iff_not] at h3
    obtain rfl : i = s.size + 1 := by omega
    have h2 := h2 rfl
    subst h2
    exact ⟨rfl, rfl⟩
def RetV (L : List (List UInt8)) (e : SE) (H' : Hp) : Prop := ∃ B m c, e = .ret (pv (.slice B m c)) ∧ VAt H' B m (stC L)
theorem partsL_pos (c : UInt8) : ∀ (r cur : List UInt8), 0 < (partsL c cur r).length
  | [], cur => by simp [partsL]
  | x :: r, cur => by
    unfold partsL
    split
    · simp
    · exact partsL_pos c r _
theorem parts_ (s : ByteArray) (hs : s.size ≤ 1000000) (c : UInt8) (H : Hp) : CallO Tryz.prog 97 [pv (.string s), pv (.int .u8 c.toNat)] H [] fun e H' G' => RetV (partsL c [] s.data.toList) e H' ∧ G' = [] := by
  refine CallO.sub (CallO.frz (K := fun e H' G' => RetV (partsL c [] s.data.toList) e H' ∧ G' = [.dead]) (parts0 s hs c H) ?_) ?_
  · rintro e H' G' hle ⟨rfl, rfl⟩
    have hp := partsL_pos c s.data.toList []
    refine ⟨0, 9, 1, _, _, rfl, fun h0 => absurd h0 (by omega), fun x H2 hle2 hfr => ?_⟩
    obtain ⟨B, cc, rfl, hv⟩ := VAt.of_frozen (by rw [stC_len]) hfr
    exact ⟨⟨B, _, cc, rfl, hv⟩, rfl⟩
  · rintro e H' G' hle ⟨⟨B, m, cc, rfl, hv⟩, rfl⟩
    exact ⟨_, [], [], rfl, trivial, rfl, ⟨B, m, cc, rfl, hv⟩, rfl⟩
theorem partsL_cur (c : UInt8) : ∀ (l cur : List UInt8), ∃ h t, partsL c [] l = h :: t ∧ partsL c cur l = (cur ++ h) :: t
  | [], cur => ⟨[], [], rfl, by simp [partsL]⟩
  | x :: r, cur => by
    unfold partsL
    split
    · exact ⟨[], _, rfl, by simp⟩
    · obtain ⟨h, t, h1, h2⟩ := partsL_cur c r [x]
      obtain ⟨h', t', h3, h4⟩ := partsL_cur c r (cur ++ [x])
      rw [h1] at h3
      injection h3 with h5 h6
      subst h5 h6
      exact ⟨_, _, h2, by rw [h4]; simp⟩
theorem splitK_parts (c : UInt8) : ∀ l : List UInt8, Lib.splitK [c] 0 (l.count c) l = partsL c [] l
  | [] => rfl
  | x :: r => by
    have ih := splitK_parts c r
    obtain ⟨h, t, h1, h2⟩ := partsL_cur c r [x]
    rw [h1] at ih
    unfold partsL
    by_cases hx : x = c
    · subst hx
      rw [if_pos rfl, List.count_cons_self, Lib.splitK]
      have : Lib.index (x :: r) [x] = 0 := by simp [Lib.index, List.isPrefixOf]
      rw [this, h1, ← ih]
      simp
    · rw [if_neg hx, List.nil_append, h2, List.count_cons_of_ne (by simpa using hx)]
      have hix : Lib.index (x :: r) [c] = if Lib.index r [c] == -1 then -1 else Lib.index r [c] + 1 := by
        rw [Lib.index]
        have : ([c] : List UInt8).isPrefixOf (x :: r) = false := by simp [List.isPrefixOf, Ne.symm hx]
        rw [this]; rfl
      cases hk : r.count c with
      | zero =>
        rw [hk] at ih
        simp only [Lib.splitK] at ih ⊢
        injection ih with i1 i2
        rw [← i1, ← i2]; rfl
      | succ k =>
        rw [hk] at ih
        simp only [Lib.splitK] at ih ⊢
        rw [hix]
        by_cases hm : Lib.index r [c] = -1
        · rw [hm] at ih ⊢
          simp only [beq_self_eq_true, if_true] at ih ⊢
          injection ih with i1 i2
          rw [← i1, ← i2]; rfl
        · have hge := Lib.index_ge r [c]
          have hb : (Lib.index r [c] == -1) = false := beq_eq_false_iff_ne.2 hm
          have hb2 : (Lib.index r [c] + 1 == -1) = false := beq_eq_false_iff_ne.2 (by omega)
          rw [hb] at ih ⊢
          simp only [Bool.false_eq_true, if_false] at ih ⊢
          rw [hb2]
          simp only [Bool.false_eq_true, if_false]
          injection ih with i1 i2
          have e : (Lib.index r [c] + 1).toNat = (Lib.index r [c]).toNat + 1 := by omega
          rw [e, Nat.add_zero, List.take_succ_cons]
          rw [Nat.add_zero] at i1
          rw [i1, ← i2]
          simp
theorem gen_ (s : ByteArray) (hs : s.size ≤ 1000000) (H : Hp) : CallO Tryz.prog 169 [pv (.string s), pv (.string ⟨#[46]⟩), pv (.int .i64 0), pv (.int .i64 (-1))] H [] fun e H' G' => e = .ret (.si (.ce (.self 0))) ∧ H' = H ∧ G' = [.row 9 1 (partsL 46 [] s.data.toList).length (stC (partsL 46 [] s.data.toList))] := by
  have hsl : s.data.toList.length = s.size := by rw [Array.length_toList]; rfl
  have hcnt : Lib.countB s ⟨#[46]⟩ = s.data.toList.count 46 := by
    show Lib.count s.data.toList [46] = _
    exact Lib.count_one 46 _
  have hle : s.data.toList.count 46 ≤ s.size := by rw [← hsl]; exact List.count_le_length
  have hall := Lib.splitB_all ⟨#[46]⟩ (by decide) 0 _ s rfl
  have hparts : (Lib.splitB ⟨#[46]⟩ 0 (Lib.countB s ⟨#[46]⟩) s).map (·.data.toList) = partsL 46 [] s.data.toList := by
    rw [Lib.splitB_data, hcnt]
    exact splitK_parts 46 _
  have hcells : (Lib.splitB ⟨#[46]⟩ 0 (Lib.countB s ⟨#[46]⟩) s).map Value.string = stC (partsL 46 [] s.data.toList) := by
    rw [← hparts]
    unfold stC
    rw [List.map_map]
    refine List.map_congr_left fun x _ => ?_
    show Value.string x = Value.string ⟨x.data.toList.toArray⟩
    cases x; simp
  have hpl : (partsL 46 [] s.data.toList).length = Lib.countB s ⟨#[46]⟩ + 1 := by rw [← hparts, List.length_map, hall]
  refine (CallO.of_calls_row (P := Tryz.prog) (t := 9) (args := [.string s, .string ⟨#[46]⟩, .int .i64 0, .int .i64 (-1)]) (R := fun n xs => n = (partsL 46 [] s.data.toList).length ∧ xs = stC (partsL 46 [] s.data.toList)) fun w _ _ => ?_).mono ?_
  · refine (Any.strings_genSplit_core Tryz.laysGen (by kernel_rfl) s ⟨#[46]⟩ 0 (-1) (Lib.countB s ⟨#[46]⟩ + 1) w (by omega) (by decide) (by decide) (fun x c _ => ?_) ?_ (by decide) (by decide) (by rw [if_pos (by decide), hcnt]; omega)).mono ?_
    · refine (Any.strings_Index_one Tryz.laysIndex x 46 _).mono ?_
      rintro e w' ⟨rfl, rfl⟩
      refine ⟨?_, rfl⟩
      have : Lib.indexB x ⟨#[46]⟩ = Lib.indexByte x.data.toList 46 := Lib.index_one x.data.toList 46
      rw [this]
    · refine (Any.strings_Count_one Tryz.laysCount s 46 w).mono ?_
      rintro e w' ⟨rfl, rfl⟩
      rw [hcnt]
      exact ⟨rfl, rfl⟩
    · rintro e w' ⟨rfl, rfl⟩
      rw [Nat.add_sub_cancel, hall]
      have hcf : Lib.cellsOf (Lib.splitB ⟨#[46]⟩ 0 (Lib.countB s ⟨#[46]⟩) s) (Lib.countB s ⟨#[46]⟩ + 1) = (stC (partsL 46 [] s.data.toList)).toArray := by
        rw [← hall, Lib.cellsOf_full, hcells]
      rw [hcf]
      have hlen : (stC (partsL 46 [] s.data.toList)).length = Lib.countB s ⟨#[46]⟩ + 1 := by rw [stC_len, hpl]
      refine ⟨_, _, stC (partsL 46 [] s.data.toList), _, rfl, heap_alloc_new w _, hlen, Nat.le_refl _, ?_, ?_, ?_, ⟨hpl.symm, rfl⟩, ?_⟩
      · rw [hcnt]; simp only [maxLen]; omega
      · rw [List.size_toArray, hlen]; exact Nat.le_refl _
      · rw [← hlen]; exact List.take_of_length_le (Nat.le_refl _)
      · exact World.grownBy_alloc w _ none
  · rintro e H' G' hle ⟨n, xs, ⟨rfl, rfl⟩, rfl, rfl, rfl⟩
    exact ⟨rfl, rfl, rfl⟩
theorem split_ (s : ByteArray) (hs : s.size ≤ 1000000) (H : Hp) : CallO Tryz.prog 136 [pv (.string s), pv (.string ⟨#[46]⟩)] H [] fun e H' G' => e = .ret (.si (.ce (.self 0))) ∧ H' = H ∧ G' = [.row 9 1 (partsL 46 [] s.data.toList).length (stC (partsL 46 [] s.data.toList))] := by
  refine CallO.of_body tab Tryz.func136 rfl (nt := Tryz.f136.ntmps) rfl (by kernel_rfl) ?_
  (conv => whnf)
  refine ⟨⟨_, Tryz.func169, rfl, by kernel_rfl⟩, CallS.use (gen_ s hs H) [] rfl rfl trivial ?_⟩
  rintro e H1 G' hle1 ⟨rfl, rfl, rfl⟩
  (conv => whnf)
  exact ⟨rfl, rfl, rfl⟩
end Go.Kx.Pa
