/- Values as texts: the number of a whole number. No condition of its own. -/
import Derived.Test.YthffabmjfnnnaaaGreatDoorMQ10
import Derived.Shelf.Strconv.ParseIntPublic10
import Derived.Lib.ParseIntBTie
import Derived.Test.YthffabmjfnnnaaaGreatDoorRows
import Derived.Lib.LaidTab
import Derived.Stop.LaidErr
import Derived.LaidSub
import Derived.MakeChecks
import Derived.Stop.ErrReads
import Derived.Test.YthffabmjfnnnaaaGreatDoorProg
import Derived.Shelf.Lays
import Derived.Lib.TrimByte
import Derived.Shelf.Strings.Split
namespace Go.Proofs
open Go.Shelf
def Tryz.laysParse_ren : Go.Shelf.Ren := ⟨fun | 174 => 153 | 247 => 188 | 245 => 169 | 287 => 217 | 279 => 197 | 280 => 198 | 281 => 199 | 282 => 200 | 321 => 240 | 322 => 241 | 316 => 231 | 171 => 81 | 205 => 232 | 243 => 126 | 246 => 167 | 283 => 193 | 284 => 194 | 285 => 195 | 286 => 196 | 129 => 138 | 317 => 227 | 318 => 228 | 319 => 229 | 320 => 230 | 337 => 246 | 338 => 247 | n => n, fun | 9 => 9 | 3 => 3 | 2 => 2 | 75 => 93 | 85 => 205 | 4 => 4 | 167 => 245 | 5 => 5 | 53 => 193 | 175 => 264 | 46 => 145 | 168 => 246 | 37 => 32 | 0 => 0 | 210 => 277 | 21 => 21 | 127 => 134 | 145 => 286 | 143 => 284 | 171 => 241 | 173 => 243 | 212 => 273 | 51 => 191 | 20 => 20 | 213 => 274 | 232 => 295 | 233 => 296 | 80 => 48 | n => n, fun | 15 => 2 | 16 => 3 | 17 => 1 | 18 => 6 | 19 => 7 | n => n⟩
theorem Tryz.laysParse : Go.Proofs.LaysC.n174 Tryz.prog Tryz.laysParse_ren where
 mixed := by kernel_rfl
 f129 := Tryz.func138.trans (congrArg some (by kernel_rfl))
 f171 := Tryz.func81.trans (congrArg some (by kernel_rfl))
 f174 := Tryz.func153.trans (congrArg some (by kernel_rfl))
 f205 := Tryz.func232.trans (congrArg some (by kernel_rfl))
 f243 := Tryz.func126.trans (congrArg some (by kernel_rfl))
 f245 := Tryz.func169.trans (congrArg some (by kernel_rfl))
 f246 := Tryz.func167.trans (congrArg some (by kernel_rfl))
 f247 := Tryz.func188.trans (congrArg some (by kernel_rfl))
 f279 := Tryz.func197.trans (congrArg some (by kernel_rfl))
 f280 := Tryz.func198.trans (congrArg some (by kernel_rfl))
 f281 := Tryz.func199.trans (congrArg some (by kernel_rfl))
 f282 := Tryz.func200.trans (congrArg some (by kernel_rfl))
 f283 := Tryz.func193.trans (congrArg some (by kernel_rfl))
 f284 := Tryz.func194.trans (congrArg some (by kernel_rfl))
 f285 := Tryz.func195.trans (congrArg some (by kernel_rfl))
 f286 := Tryz.func196.trans (congrArg some (by kernel_rfl))
 f287 := Tryz.func217.trans (congrArg some (by kernel_rfl))
 f316 := Tryz.func231.trans (congrArg some (by kernel_rfl))
 f317 := Tryz.func227.trans (congrArg some (by kernel_rfl))
 f318 := Tryz.func228.trans (congrArg some (by kernel_rfl))
 f319 := Tryz.func229.trans (congrArg some (by kernel_rfl))
 f320 := Tryz.func230.trans (congrArg some (by kernel_rfl))
 f321 := Tryz.func240.trans (congrArg some (by kernel_rfl))
 f322 := Tryz.func241.trans (congrArg some (by kernel_rfl))
 f337 := Tryz.func246.trans (congrArg some (by kernel_rfl))
 f338 := Tryz.func247.trans (congrArg some (by kernel_rfl))
 t0 := Tryz.underlying0
 a0 := Tryz.isAgg0
 z0 := Tryz.sizeOf0
 v0 := Tryz.zeroValue0
 t2 := Tryz.underlying2
 a2 := Tryz.isAgg2
 z2 := Tryz.sizeOf2
 v2 := Tryz.zeroValue2
 t3 := Tryz.underlying3
 a3 := Tryz.isAgg3
 z3 := Tryz.sizeOf3
 v3 := Tryz.zeroValue3
 t4 := Tryz.underlying4
 a4 := Tryz.isAgg4
 z4 := Tryz.sizeOf4
 v4 := Tryz.zeroValue4
 t5 := Tryz.underlying5
 a5 := Tryz.isAgg5
 z5 := Tryz.sizeOf5
 v5 := Tryz.zeroValue5
 t9 := Tryz.underlying9
 a9 := Tryz.isAgg9
 z9 := Tryz.sizeOf9
 v9 := Tryz.zeroValue9
 t20 := Tryz.underlying20
 a20 := Tryz.isAgg20
 z20 := Tryz.sizeOf20
 v20 := Tryz.zeroValue20
 t21 := Tryz.underlying21
 a21 := Tryz.isAgg21
 z21 := Tryz.sizeOf21
 v21 := Tryz.zeroValue21
 t37 := Tryz.underlying32
 a37 := Tryz.isAgg32
 z37 := Tryz.sizeOf32
 v37 := Tryz.zeroValue32
 t46 := Tryz.underlying145
 a46 := Tryz.isAgg145
 z46 := Tryz.sizeOf145
 v46 := Tryz.zeroValue145
 t51 := Tryz.underlying191
 a51 := Tryz.isAgg191
 z51 := Tryz.sizeOf191
 v51 := Tryz.zeroValue191
 t53 := Tryz.underlying193
 a53 := Tryz.isAgg193
 z53 := Tryz.sizeOf193
 v53 := Tryz.zeroValue193
 t75 := Tryz.underlying93
 a75 := Tryz.isAgg93
 z75 := Tryz.sizeOf93
 v75 := Tryz.zeroValue93
 t85 := Tryz.underlying205
 a85 := Tryz.isAgg205
 z85 := Tryz.sizeOf205
 v85 := Tryz.zeroValue205
 t127 := Tryz.underlying134
 a127 := Tryz.isAgg134
 z127 := Tryz.sizeOf134
 v127 := Tryz.zeroValue134
 t143 := Tryz.underlying284
 a143 := Tryz.isAgg284
 z143 := Tryz.sizeOf284
 v143 := Tryz.zeroValue284
 t145 := Tryz.underlying286
 a145 := Tryz.isAgg286
 z145 := Tryz.sizeOf286
 v145 := Tryz.zeroValue286
 t167 := Tryz.underlying245
 a167 := Tryz.isAgg245
 z167 := Tryz.sizeOf245
 v167 := Tryz.zeroValue245
 t168 := Tryz.underlying246
 a168 := Tryz.isAgg246
 z168 := Tryz.sizeOf246
 v168 := Tryz.zeroValue246
 t171 := Tryz.underlying241
 a171 := Tryz.isAgg241
 z171 := Tryz.sizeOf241
 v171 := Tryz.zeroValue241
 t173 := Tryz.underlying243
 a173 := Tryz.isAgg243
 z173 := Tryz.sizeOf243
 v173 := Tryz.zeroValue243
 t175 := Tryz.underlying264
 a175 := Tryz.isAgg264
 z175 := Tryz.sizeOf264
 v175 := Tryz.zeroValue264
 t210 := Tryz.underlying277
 a210 := Tryz.isAgg277
 z210 := Tryz.sizeOf277
 v210 := Tryz.zeroValue277
 t212 := Tryz.underlying273
 a212 := Tryz.isAgg273
 z212 := Tryz.sizeOf273
 v212 := Tryz.zeroValue273
 t213 := Tryz.underlying274
 a213 := Tryz.isAgg274
 z213 := Tryz.sizeOf274
 t232 := Tryz.underlying295
 a232 := Tryz.isAgg295
 z232 := Tryz.sizeOf295
 v232 := Tryz.zeroValue295
 t233 := Tryz.underlying296
 a233 := Tryz.isAgg296
 z233 := Tryz.sizeOf296
 v233 := Tryz.zeroValue296
 g15 := by kernel_rfl
 g16 := by kernel_rfl
 g17 := by kernel_rfl
 g18 := by kernel_rfl
 g19 := by kernel_rfl
 t80 := Tryz.underlying48
 a80 := Tryz.isAgg48
 z80 := Tryz.sizeOf48
 v80 := Tryz.zeroValue48
 i0 := by kernel_rfl
 i2 := by kernel_rfl
 i3 := by kernel_rfl
 i4 := by kernel_rfl
 i5 := by kernel_rfl
 i9 := by kernel_rfl
 i20 := by kernel_rfl
 i21 := by kernel_rfl
 i37 := by kernel_rfl
 i46 := by kernel_rfl
 i51 := by kernel_rfl
 i53 := by kernel_rfl
 i75 := by kernel_rfl
 i80 := by kernel_rfl
 i85 := by kernel_rfl
 i127 := by kernel_rfl
 i143 := by kernel_rfl
 i145 := by kernel_rfl
 i167 := by kernel_rfl
 i168 := by kernel_rfl
 i171 := by kernel_rfl
 i173 := by kernel_rfl
 i175 := by kernel_rfl
 i210 := by kernel_rfl
 i212 := by kernel_rfl
 i232 := by kernel_rfl
 i233 := by kernel_rfl
 m15 := by kernel_rfl
 m16 := by kernel_rfl
 m17 := by kernel_rfl
 m18 := by kernel_rfl
 m19 := by kernel_rfl
 c0 := by kernel_rfl
 c2 := by kernel_rfl
 c3 := by kernel_rfl
 c4 := by kernel_rfl
 c5 := by kernel_rfl
 c9 := by kernel_rfl
 c20 := by kernel_rfl
 c21 := by kernel_rfl
 c37 := by kernel_rfl
 c46 := by kernel_rfl
 c51 := by kernel_rfl
 c53 := by kernel_rfl
 c75 := by kernel_rfl
 c80 := by kernel_rfl
 c85 := by kernel_rfl
 c127 := by kernel_rfl
 c143 := by kernel_rfl
 c145 := by kernel_rfl
 c167 := by kernel_rfl
 c168 := by kernel_rfl
 c171 := by kernel_rfl
 c173 := by kernel_rfl
 c175 := by kernel_rfl
 c210 := by kernel_rfl
 c212 := by kernel_rfl
 c213 := by kernel_rfl
 c232 := by kernel_rfl
 c233 := by kernel_rfl

end Go.Proofs
namespace Go.Kx.Ob
open Go.Proofs Go.Kx Go.RowKit Go.Kx.Js Go.Kx.Pr Go.Kx.Rt
set_option maxRecDepth 20000
set_option linter.unusedSimpArgs false
def ErrH (H : Hp) : Prop := ∀ g, (g = 2 ∨ g = 3) → ∃ te pe, H g 0 = some (.iface te pe)
theorem ErrH.mono {H H' : Hp} (h : H.Le H') (he : ErrH H) : ErrH H' := fun g hg => let ⟨te, pe, e⟩ := he g hg; ⟨te, pe, h _ _ _ e⟩
theorem parseInt (s : ByteArray) (hs : s.size ≤ 1000000) (H : Hp) (hv : ErrH H) :
  CallO Tryz.prog 153 [pv (.string s), pv (.int .i64 10), pv (.int .i64 64)] H [] fun e H' G' => (∃ (v : Int) (x : Value), e = .ret (.tu [.ce (.val (.int .i64 v)), .ce (.val x)]) ∧ ((Lib.atoiAll s.data.toList = .ok v ∧ x = .nilIface) ∨ ((∀ u, Lib.atoiAll s.data.toList ≠ .ok u) ∧ ∃ te pe, x = .iface te pe))) ∧ H' = H ∧ G' = [] := by
 refine (CallO.of_calls (args := [.string s, .int .i64 10, .int .i64 64]) (R := fun y => ∃ (v : Int) (x : Value), y = .tuple #[.int .i64 v, x] ∧ ((Lib.atoiAll s.data.toList = .ok v ∧ x = .nilIface) ∨ ((∀ u, Lib.atoiAll s.data.toList ≠ .ok u) ∧ ∃ te pe, x = .iface te pe))) fun w hg hin => ?_).mono ?_
 ·have ht := Lib.parseIntB_64 s.data.toList
  cases h : Lib.atoiAll s.data.toList
  ·rename_i v
   refine (Any.strconv_ParseInt_10_at64_ok Tryz.laysParse s (by omega) v (ht.trans h) w).mono fun e w' ⟨he, hw⟩ => ⟨_, he, ⟨v, _, rfl, .inl ⟨rfl, rfl⟩⟩, ?_⟩
   rcases hw with rfl | ⟨t, rfl⟩
   ·exact grown_refl _
   ·exact ⟨rfl, rfl, rfl, by rw [Lib.bytesWorld_size]; omega, fun j hj _ => Lib.bytesWorld_at_old w _ t j hj⟩
  ·obtain ⟨te, pe, he⟩ := hv 2 (.inl rfl)
   refine (Any.strconv_ParseInt_10_at64_syntax Tryz.laysParse s (by omega) (ht.trans h) _ w (hin _ _ _ he) (.inr ⟨te, pe, rfl⟩)).mono fun e w' ⟨N, he, _, _, hb⟩ => ⟨_, he, ⟨_, _, rfl, .inr ⟨fun u e => (nomatch e), _, _, rfl⟩⟩, grown_of_below hb⟩
  ·obtain ⟨te, pe, he⟩ := hv 3 (.inr rfl)
   refine (Any.strconv_ParseInt_10_at64_range Tryz.laysParse s (by omega) (ht.trans h) _ w (hin _ _ _ he) (.inr ⟨te, pe, rfl⟩)).mono fun e w' ⟨N, he, _, _, hb⟩ => ⟨_, he, ⟨_, _, rfl, .inr ⟨fun u e => (nomatch e), _, _, rfl⟩⟩, grown_of_below hb⟩
 ·rintro e H' G' hle ⟨y, ⟨v, x, rfl, h⟩, rfl, rfl, rfl⟩
  exact ⟨⟨v, x, rfl, h⟩, rfl, rfl⟩
def intP (j : J) : Int × Bool :=
 if j.kind = 3 ∧ numericP j.text = true then
  match Lib.atoiAll j.text.data.toList with
  | .ok v => if v < -9007199254740992 ∨ v > 9007199254740992 then (0, false) else (v, true)
  | _ => (0, false)
 else (0, false)
theorem int_ (j : J) (hs : j.text.size ≤ 190000) (k : Int) (y : Bool) (t : ByteArray) (A : Option Addr) (n c : Nat) (B : Option Addr) (m d : Nat) (H : Hp) (hE : ErrH H) (hj : JAt H j [.int .i64 k, .bool y, .string t, .slice A n c, .slice B m d]) :
  CallO Tryz.prog 103 [agJ k y t A n c B m d] H [] fun e H' G' => e = .ret (.tu [.ce (.val (.int .i64 (intP j).1)), .ce (.val (.bool (intP j).2))]) ∧ H.Le H' ∧ G' = [] := by
 obtain ⟨rfl, rfl, rfl⟩ : k = j.kind ∧ y = j.yes ∧ t = j.text := by cases hj; exact ⟨rfl, rfl, rfl⟩
 unfold intP
 refine CallO.of_body tab Tryz.func103 rfl (nt := Tryz.f103.ntmps) rfl (by kernel_rfl) ?_
 (conv => whnf)
 refine br.of (fun h1 => ?_) (fun h1 => ?_) <;> (conv => whnf)
 ·simp only [bne_iff_ne, ne_eq] at h1
  rw [if_neg (fun h => h1 h.1)]
  exact ⟨rfl, .refl _, rfl⟩
 simp only [bne_eq_false_iff_eq] at h1
 refine ⟨⟨_, Tryz.func108, rfl, by kernel_rfl⟩, CallS.use (numeric_ j.text hs H) [] rfl rfl trivial ?_⟩
 rintro e H2 G' hle ⟨rfl, rfl⟩
 cases hn : numericP j.text
 all_goals (conv => whnf)
 ·rw [if_neg (by simp)]
  exact ⟨rfl, hle, rfl⟩
 rw [if_pos ⟨h1, rfl⟩]
 refine ⟨⟨_, Tryz.func153, rfl, by kernel_rfl⟩, CallS.use (parseInt j.text (by omega) H2 (hE.mono hle)) [] rfl rfl trivial ?_⟩
 rintro e H3 G' hle2 ⟨⟨v, x, rfl, hx⟩, rfl, rfl⟩
 rcases hx with ⟨hv, rfl⟩ | ⟨hv, te, pe, rfl⟩
 all_goals (conv => whnf)
 ·rw [hv]
  refine br.of (fun h2 => ?_) (fun h2 => ?_) <;> (conv => whnf)
  ·have h2 := of_decide_eq_true h2
   simp only [if_pos (show v < -9007199254740992 ∨ v > 9007199254740992 by omega)]
   exact ⟨trivial, hle, rfl⟩
  have h2 := of_decide_eq_false h2
  refine br.of (fun h3 => ?_) (fun h3 => ?_) <;> (conv => whnf)
  ·have h3 := of_decide_eq_true h3
   simp only [if_pos (show v < -9007199254740992 ∨ v > 9007199254740992 by omega)]
   exact ⟨trivial, hle, rfl⟩
  have h3 := of_decide_eq_false h3
  simp only [if_neg (show ¬ (v < -9007199254740992 ∨ v > 9007199254740992) by omega)]
  exact ⟨trivial, hle, rfl⟩
 ·cases hh : Lib.atoiAll j.text.data.toList with
  | ok u => exact absurd hh (hv u)
  | _ => exact ⟨rfl, hle, rfl⟩
end Go.Kx.Ob
namespace Go.Proofs.YthffabmjfnnnaaaGreatDoor.RowLaid
open Go.ChangeShapes Go.WideShapes Go.ChangeAt Go.RowKit Go.Kx Go.Proofs

def laid : List (String × DataW Unit) := [("math/bits.deBruijn32tab", Rows.laid_math_bits_deBruijn32tab), ("math/bits.deBruijn64tab", Rows.laid_math_bits_deBruijn64tab), ("internal/strconv.uint64pow10", Rows.laid_internal_strconv_uint64pow10), ("unicode/utf8.acceptRanges", Rows.laid_unicode_utf8_acceptRanges), ("strconv.ErrRange", Rows.laid_strconv_ErrRange), ("strconv.ErrSyntax", Rows.laid_strconv_ErrSyntax), ("unicode/utf8.first", Rows.laid_unicode_utf8_first)]
theorem own : ownKnob Tryz.prog.godebug = none := by kernel_rfl
theorem laidOut : laidOutB Tryz.prog = true := by kernel_rfl
theorem star : "*" ++ "errors.errorString" = "*errors.errorString" := by decide
theorem rowE (u : TypeId) (h : Tryz.prog.typeName? 3 u = some "*errors.errorString") : u = 284 :=
 typeName_ptr_named (nm := "errors.errorString") (by rw [star]; kernel_rfl) (by kernel_rfl) (by decide) u (by rw [star]; exact h)
theorem gP : Tryz.prog.globalNamed "internal/strconv.uint64pow10" = some 1 := by kernel_rfl
theorem gS : Tryz.prog.globalNamed "strconv.ErrSyntax" = some 2 := by kernel_rfl
theorem gR : Tryz.prog.globalNamed "strconv.ErrRange" = some 3 := by kernel_rfl
theorem one {W : World} (h : laidMetH Tryz.prog laid W) (nm : String) (d : DataW Unit) (e : laid.filter (fun x => x.1 == nm) = [(nm, d)]) (hp : d.handleName?.isNone = true) : laidMet Tryz.prog [(nm, d)] W := by
 have h1 := h.filter fun x => x.1 == nm
 rw [e, Go.MakeChecks.laidMetH_plain _ _ _ (by simp [hp])] at h1
 exact h1
theorem gd {W : World} (h : laidMetH Tryz.prog laid W) : Gd W fun _ => False := by
 have h1 := one h "internal/strconv.uint64pow10" Rows.laid_internal_strconv_uint64pow10 (by kernel_rfl) (by kernel_rfl)
 have h2 : laidMet Tryz.prog [("internal/strconv.uint64pow10", Lib.tabData .u64 Lib.pow10Tab)] W := by
  rw [show (Lib.tabData .u64 Lib.pow10Tab : DataW Unit) = Rows.laid_internal_strconv_uint64pow10 by kernel_rfl]
  exact h1
 have h3 : W.var? Tryz.prog "internal/strconv.uint64pow10" = some (Lib.pow10Tab.map fun z => Value.int .u64 z).toArray := Lib.tabIs_of_head gP (by kernel_rfl) Tryz.underlying273 Tryz.underlying193 (by kernel_rfl) (by kernel_rfl) h2
 unfold World.var? at h3
 rw [gP] at h3
 simp only [Option.bind_some] at h3
 intro g cs hg
 refine ⟨?_, fun hf => hf⟩
 unfold Gl at hg
 split at hg
 ·rename_i hb
  subst hb
  injection hg with hg
  subst hg
  split at h3
  ·rename_i cs t z hh
   injection h3 with h3
   subst h3
   exact ⟨t, z, by rw [hh]; rfl⟩
  ·cases h3
 ·cases hg
theorem errH {W : World} (h : laidMetH Tryz.prog laid W) : Go.Kx.Ob.ErrH (heapOf W) := by
 rintro g (rfl | rfl)
 ·have h1 := one h "strconv.ErrSyntax" Rows.laid_strconv_ErrSyntax (by kernel_rfl) (by kernel_rfl)
  obtain ⟨a1, s1, hv1, hc1, hs1, hz1⟩ := laid_sentinel h1 gS (by kernel_rfl) (ti := 93) Tryz.underlying93 rowE Tryz.underlying284 Tryz.underlying286 rfl rfl Tryz.underlying9 (by kernel_rfl) (by kernel_rfl)
  exact ⟨_, _, by simpa [heapOf] using World.var?_cell gS hv1 0⟩
 ·have h1 := one h "strconv.ErrRange" Rows.laid_strconv_ErrRange (by kernel_rfl) (by kernel_rfl)
  obtain ⟨a1, s1, hv1, hc1, hs1, hz1⟩ := laid_sentinel h1 gR (by kernel_rfl) (ti := 93) Tryz.underlying93 rowE Tryz.underlying284 Tryz.underlying286 rfl rfl Tryz.underlying9 (by kernel_rfl) (by kernel_rfl)
  exact ⟨_, _, by simpa [heapOf] using World.var?_cell gR hv1 0⟩
noncomputable def low (os : Os) : Nat := (World.holding Tryz.prog os ⟨#[], #[], []⟩).heap.size
def rangeS : ByteArray := ⟨#[118, 97, 108, 117, 101, 32, 111, 117, 116, 32, 111, 102, 32, 114, 97, 110, 103, 101]⟩
def syntaxS : ByteArray := ⟨#[105, 110, 118, 97, 108, 105, 100, 32, 115, 121, 110, 116, 97, 120]⟩
def litsOf : DataW Unit → Array Value
 | .agg l => (l.flatMap fun
  | .lit (.int k v) => [Value.int k v]
  | .agg m => m.filterMap fun
   | .lit (.int k v) => some (Value.int k v)
   | _ => none
  | _ => []).toArray
 | _ => #[]
noncomputable def laidWorld (os : Os) : World :=
 let w0 := World.holding Tryz.prog os ⟨#[.cells #[.string rangeS] 286, .cells #[.string syntaxS] 286], #[], []⟩
 { w0 with heap := ((((((w0.heap.modify 6 fun
   | .cells _ t z => .cells (litsOf Rows.laid_math_bits_deBruijn32tab) t z
   | o => o).modify 7 fun
   | .cells _ t z => .cells (litsOf Rows.laid_math_bits_deBruijn64tab) t z
   | o => o).modify 1 fun
   | .cells _ t z => .cells (litsOf Rows.laid_internal_strconv_uint64pow10) t z
   | o => o).modify 5 fun
   | .cells _ t z => .cells (litsOf Rows.laid_unicode_utf8_acceptRanges) t z
   | o => o).modify 4 fun
   | .cells _ t z => .cells (litsOf Rows.laid_unicode_utf8_first) t z
   | o => o).modify 3 fun
   | .cells _ t z => .cells #[.iface 284 (.pointer (some ⟨low os, 0, Option.none⟩))] t z
   | o => o).modify 2 fun
   | .cells _ t z => .cells #[.iface 284 (.pointer (some ⟨low os + 1, 0, Option.none⟩))] t z
   | o => o }
theorem laidWorld_met (os : Os) (args : Array Value) : laidMetH Tryz.prog laid ((laidWorld os).forCall (fun _ _ => 0) ⟨#[], args, []⟩).memory := by
 rw [Go.MakeChecks.laidMetH_plain _ _ _ (by kernel_rfl)]
 exact laidMet_of_run' 8 (by kernel_rfl) (by kernel_rfl)
end Go.Proofs.YthffabmjfnnnaaaGreatDoor.RowLaid
namespace Go.Proofs
open Go.Shelf
def Tryz.laysGen_ren : Go.Shelf.Ren := ⟨fun | 221 => 140 | 268 => 175 | 138 => 176 | 143 => 177 | 195 => 202 | 197 => 203 | 218 => 204 | 219 => 205 | 260 => 233 | 217 => 124 | 225 => 234 | 224 => 235 | 267 => 236 | 266 => 166 | 314 => 248 | n => n, fun | 9 => 9 | 3 => 3 | 31 => 149 | 4 => 4 | 0 => 0 | 105 => 252 | 21 => 21 | 5 => 5 | 46 => 145 | 119 => 287 | 139 => 290 | 138 => 289 | 146 => 291 | 51 => 191 | n => n, fun | 1 => 0 | 3 => 4 | 4 => 5 | n => n⟩
theorem Tryz.laysGen : Go.Proofs.Lays.n221 Tryz.prog Tryz.laysGen_ren where
 mixed := by kernel_rfl
 f138 := Tryz.func176.trans (congrArg some (by kernel_rfl))
 f143 := Tryz.func177.trans (congrArg some (by kernel_rfl))
 f195 := Tryz.func202.trans (congrArg some (by kernel_rfl))
 f197 := Tryz.func203.trans (congrArg some (by kernel_rfl))
 f217 := Tryz.func124.trans (congrArg some (by kernel_rfl))
 f218 := Tryz.func204.trans (congrArg some (by kernel_rfl))
 f219 := Tryz.func205.trans (congrArg some (by kernel_rfl))
 f221 := Tryz.func140.trans (congrArg some (by kernel_rfl))
 f224 := Tryz.func235.trans (congrArg some (by kernel_rfl))
 f225 := Tryz.func234.trans (congrArg some (by kernel_rfl))
 f260 := Tryz.func233.trans (congrArg some (by kernel_rfl))
 f266 := Tryz.func166.trans (congrArg some (by kernel_rfl))
 f267 := Tryz.func236.trans (congrArg some (by kernel_rfl))
 f268 := Tryz.func175.trans (congrArg some (by kernel_rfl))
 f314 := Tryz.func248.trans (congrArg some (by kernel_rfl))
 t0 := Tryz.underlying0
 a0 := Tryz.isAgg0
 z0 := Tryz.sizeOf0
 v0 := Tryz.zeroValue0
 t3 := Tryz.underlying3
 a3 := Tryz.isAgg3
 z3 := Tryz.sizeOf3
 v3 := Tryz.zeroValue3
 t4 := Tryz.underlying4
 a4 := Tryz.isAgg4
 z4 := Tryz.sizeOf4
 v4 := Tryz.zeroValue4
 t5 := Tryz.underlying5
 a5 := Tryz.isAgg5
 z5 := Tryz.sizeOf5
 v5 := Tryz.zeroValue5
 t9 := Tryz.underlying9
 a9 := Tryz.isAgg9
 z9 := Tryz.sizeOf9
 v9 := Tryz.zeroValue9
 t21 := Tryz.underlying21
 a21 := Tryz.isAgg21
 z21 := Tryz.sizeOf21
 v21 := Tryz.zeroValue21
 t31 := Tryz.underlying149
 a31 := Tryz.isAgg149
 z31 := Tryz.sizeOf149
 v31 := Tryz.zeroValue149
 t46 := Tryz.underlying145
 a46 := Tryz.isAgg145
 z46 := Tryz.sizeOf145
 v46 := Tryz.zeroValue145
 t51 := Tryz.underlying191
 a51 := Tryz.isAgg191
 z51 := Tryz.sizeOf191
 v51 := Tryz.zeroValue191
 t105 := Tryz.underlying252
 a105 := Tryz.isAgg252
 z105 := Tryz.sizeOf252
 v105 := Tryz.zeroValue252
 t119 := Tryz.underlying287
 a119 := Tryz.isAgg287
 z119 := Tryz.sizeOf287
 t138 := Tryz.underlying289
 a138 := Tryz.isAgg289
 z138 := Tryz.sizeOf289
 v138 := Tryz.zeroValue289
 t139 := Tryz.underlying290
 a139 := Tryz.isAgg290
 z139 := Tryz.sizeOf290
 v139 := Tryz.zeroValue290
 t146 := Tryz.underlying291
 a146 := Tryz.isAgg291
 z146 := Tryz.sizeOf291
 v146 := Tryz.zeroValue291
 g1 := by kernel_rfl
 g3 := by kernel_rfl
 g4 := by kernel_rfl
def Tryz.laysCount_ren : Go.Shelf.Ren := ⟨fun | 138 => 176 | 195 => 202 | 218 => 204 | 143 => 177 | 219 => 205 | 217 => 124 | 225 => 234 | 224 => 235 | 267 => 236 | 266 => 166 | 314 => 248 | n => n, fun | 9 => 9 | 3 => 3 | 4 => 4 | 5 => 5 | 0 => 0 | 46 => 145 | 146 => 291 | 51 => 191 | n => n, fun | 1 => 0 | n => n⟩
theorem Tryz.laysCount : Go.Proofs.Lays.n138 Tryz.prog Tryz.laysCount_ren where
 mixed := by kernel_rfl
 f138 := Tryz.func176.trans (congrArg some (by kernel_rfl))
 f143 := Tryz.func177.trans (congrArg some (by kernel_rfl))
 f195 := Tryz.func202.trans (congrArg some (by kernel_rfl))
 f217 := Tryz.func124.trans (congrArg some (by kernel_rfl))
 f218 := Tryz.func204.trans (congrArg some (by kernel_rfl))
 f219 := Tryz.func205.trans (congrArg some (by kernel_rfl))
 f224 := Tryz.func235.trans (congrArg some (by kernel_rfl))
 f225 := Tryz.func234.trans (congrArg some (by kernel_rfl))
 f266 := Tryz.func166.trans (congrArg some (by kernel_rfl))
 f267 := Tryz.func236.trans (congrArg some (by kernel_rfl))
 f314 := Tryz.func248.trans (congrArg some (by kernel_rfl))
 t0 := Tryz.underlying0
 a0 := Tryz.isAgg0
 z0 := Tryz.sizeOf0
 v0 := Tryz.zeroValue0
 t3 := Tryz.underlying3
 a3 := Tryz.isAgg3
 z3 := Tryz.sizeOf3
 v3 := Tryz.zeroValue3
 t4 := Tryz.underlying4
 a4 := Tryz.isAgg4
 z4 := Tryz.sizeOf4
 v4 := Tryz.zeroValue4
 t5 := Tryz.underlying5
 a5 := Tryz.isAgg5
 z5 := Tryz.sizeOf5
 v5 := Tryz.zeroValue5
 t9 := Tryz.underlying9
 a9 := Tryz.isAgg9
 z9 := Tryz.sizeOf9
 v9 := Tryz.zeroValue9
 t46 := Tryz.underlying145
 a46 := Tryz.isAgg145
 z46 := Tryz.sizeOf145
 v46 := Tryz.zeroValue145
 t51 := Tryz.underlying191
 a51 := Tryz.isAgg191
 z51 := Tryz.sizeOf191
 v51 := Tryz.zeroValue191
 t146 := Tryz.underlying291
 a146 := Tryz.isAgg291
 z146 := Tryz.sizeOf291
 v146 := Tryz.zeroValue291
 g1 := by kernel_rfl
def Tryz.laysIndex_ren : Go.Shelf.Ren := ⟨fun | 143 => 177 | 219 => 205 | 217 => 124 | 225 => 234 | 224 => 235 | 267 => 236 | 266 => 166 | 314 => 248 | n => n, fun | 9 => 9 | 3 => 3 | 4 => 4 | 5 => 5 | 46 => 145 | 146 => 291 | 51 => 191 | n => n, fun | 1 => 0 | n => n⟩
theorem Tryz.laysIndex : Go.Proofs.Lays.n143 Tryz.prog Tryz.laysIndex_ren where
 mixed := by kernel_rfl
 f143 := Tryz.func177.trans (congrArg some (by kernel_rfl))
 f217 := Tryz.func124.trans (congrArg some (by kernel_rfl))
 f219 := Tryz.func205.trans (congrArg some (by kernel_rfl))
 f224 := Tryz.func235.trans (congrArg some (by kernel_rfl))
 f225 := Tryz.func234.trans (congrArg some (by kernel_rfl))
 f266 := Tryz.func166.trans (congrArg some (by kernel_rfl))
 f267 := Tryz.func236.trans (congrArg some (by kernel_rfl))
 f314 := Tryz.func248.trans (congrArg some (by kernel_rfl))
 t3 := Tryz.underlying3
 a3 := Tryz.isAgg3
 z3 := Tryz.sizeOf3
 v3 := Tryz.zeroValue3
 t4 := Tryz.underlying4
 a4 := Tryz.isAgg4
 z4 := Tryz.sizeOf4
 v4 := Tryz.zeroValue4
 t5 := Tryz.underlying5
 a5 := Tryz.isAgg5
 z5 := Tryz.sizeOf5
 v5 := Tryz.zeroValue5
 t9 := Tryz.underlying9
 a9 := Tryz.isAgg9
 z9 := Tryz.sizeOf9
 v9 := Tryz.zeroValue9
 t46 := Tryz.underlying145
 a46 := Tryz.isAgg145
 z46 := Tryz.sizeOf145
 v46 := Tryz.zeroValue145
 t51 := Tryz.underlying191
 a51 := Tryz.isAgg191
 z51 := Tryz.sizeOf191
 v51 := Tryz.zeroValue191
 t146 := Tryz.underlying291
 a146 := Tryz.isAgg291
 z146 := Tryz.sizeOf291
 v146 := Tryz.zeroValue291
 g1 := by kernel_rfl

end Go.Proofs
namespace Go.Kx.Pa
open Go.Proofs Go.Kx Go.RowKit Go.Sort
set_option maxRecDepth 20000
set_option linter.unusedSimpArgs false
theorem mixed : Tryz.prog.follows .mixedOrders = true := by kernel_rfl
def T : Tab := [(9, { k := TK.string, agg := false, size := 1, bytes := 16, zero := [Z.s] }), (149, { k := TK.slice 9, agg := false, size := 1, bytes := 24, zero := [Z.sl] }), (3, { k := TK.int IntKind.i64, agg := false, size := 1, bytes := 8, zero := [Z.i IntKind.i64] })]
set_option maxRecDepth 100000 in
theorem tab : TabOk Tryz.prog T := tabOk_mk (ts := [9, 149, 3]) (by kernel_rfl)
def VAt (H : Hp) (A : Option Addr) (n : Nat) (vs : List Value) : Prop := n = vs.length ∧ (A = none → vs = []) ∧ ∀ a, A = some a → RdN H (some a) 0 vs
theorem VAt.mono {H H' : Hp} (h : H.Le H') {A : Option Addr} {n : Nat} {vs : List Value} (hb : VAt H A n vs) : VAt H' A n vs := ⟨hb.1, hb.2.1, fun a e => (hb.2.2 a e).mono h⟩
theorem VAt.of_frozen {H : Hp} {x : Value} {n : Nat} {vs : List Value} (hn : n = vs.length) (h : Frozen H x n vs) : ∃ A cap, x = .slice A n cap ∧ VAt H A n vs := by
 rcases h with ⟨rfl, h1, h2⟩ | ⟨g, o, cap, rfl, _, h2⟩
 ·subst h1
  exact ⟨none, 0, rfl, hn, fun _ => h2, fun a e => (nomatch e)⟩
 ·exact ⟨_, cap, rfl, hn, fun e => (nomatch e), fun a e => by injection e with e; subst e; exact h2⟩
theorem VAt.get {H : Hp} {A : Option Addr} {n : Nat} {vs : List Value} (h : VAt H A n vs) {i : Nat} {v : Value} (hi : vs[i]? = some v) {off : Nat} (ho : off = i) : RdC H A off v := by
 subst ho
 obtain ⟨h1, h2, h3⟩ := h
 cases A with
 | none => rw [h2 rfl] at hi; simp at hi
 | some a =>
  obtain ⟨b, o, e1, h4⟩ := h3 a rfl
  exact ⟨b, o, e1, by simpa using h4 _ _ hi⟩
theorem VAt.addr {H : Hp} {A : Option Addr} {n : Nat} {vs : List Value} (h : VAt H A n vs) (h0 : 0 < n) : ∃ b o, A = some ⟨b, o, none⟩ := by
 obtain ⟨h1, h2, h3⟩ := h
 cases A with
 | none => rw [h2 rfl] at h1; simp at h1; omega
 | some a =>
  obtain ⟨b, o, e1, _⟩ := h3 a rfl
  exact ⟨b, o, e1⟩
def stC (L : List (List UInt8)) : List Value := L.map fun l => .string ⟨l.toArray⟩
theorem stC_strs (L : List (List UInt8)) : So.strs L = stC L := rfl
theorem stC_snoc (L : List (List UInt8)) (l : List UInt8) : stC (L ++ [l]) = stC L ++ [.string ⟨l.toArray⟩] := by unfold stC; rw [List.map_append]; rfl
theorem stC_len (L : List (List UInt8)) : (stC L).length = L.length := by unfold stC; simp
def partsL (c : UInt8) : List UInt8 → List UInt8 → List (List UInt8)
 | cur, [] => [cur]
 | cur, x :: r => if x = c then cur :: partsL c [] r else partsL c (cur ++ [x]) r
theorem partsL_len (c : UInt8) : ∀ (r cur : List UInt8), (partsL c cur r).length ≤ r.length + 1
 | [], cur => by simp [partsL]
 | x :: r, cur => by
  unfold partsL
  split
  ·have := partsL_len c r []; simp only [List.length_cons]; omega
  ·have := partsL_len c r (cur ++ [x]); simp only [List.length_cons]; omega
theorem bAt (s : ByteArray) (i : Nat) (h : i < s.size) : ∃ c : UInt8, s.data.toList[i]? = some c ∧ byteAt s (i : Int) = (c.toNat : Int) := by
 have hl : i < s.data.toList.length := by rw [Array.length_toList]; exact h
 refine ⟨s.data.toList[i]'hl, List.getElem?_eq_getElem _, ?_⟩
 unfold byteAt
 rw [Int.toNat_natCast, List.getD_eq_getElem?_getD, List.getElem?_eq_getElem hl]
 rfl
def RetV (L : List (List UInt8)) (e : SE) (H' : Hp) : Prop := ∃ B m c, e = .ret (pv (.slice B m c)) ∧ VAt H' B m (stC L)
theorem partsL_pos (c : UInt8) : ∀ (r cur : List UInt8), 0 < (partsL c cur r).length
 | [], cur => by simp [partsL]
 | x :: r, cur => by
  unfold partsL
  split
  ·simp
  ·exact partsL_pos c r _
theorem partsL_cur (c : UInt8) : ∀ (l cur : List UInt8), ∃ h t, partsL c [] l = h :: t ∧ partsL c cur l = (cur ++ h) :: t
 | [], cur => ⟨[], [], rfl, by simp [partsL]⟩
 | x :: r, cur => by
  unfold partsL
  split
  ·exact ⟨[], _, rfl, by simp⟩
  ·obtain ⟨h, t, h1, h2⟩ := partsL_cur c r [x]
   obtain ⟨h', t', h3, h4⟩ := partsL_cur c r (cur ++ [x])
   rw [h1] at h3
   injection h3 with h5 h6
   subst h5 h6
   exact ⟨_, _, h2, by rw [h4]; simp⟩
theorem splitK_parts (c : UInt8) : ∀ l : List UInt8, Lib.splitK [c] 0 (l.count c) l = partsL c [] l
 | [] => rfl
 | x :: r => by
  have ih := splitK_parts c r
  obtain ⟨h, t, h1, h2⟩ := partsL_cur c r [x]
  rw [h1] at ih
  unfold partsL
  by_cases hx : x = c
  ·subst hx
   rw [if_pos rfl, List.count_cons_self, Lib.splitK]
   have : Lib.index (x :: r) [x] = 0 := by simp [Lib.index, List.isPrefixOf]
   rw [this, h1, ← ih]
   simp
  ·rw [if_neg hx, List.nil_append, h2, List.count_cons_of_ne (by simpa using hx)]
   have hix : Lib.index (x :: r) [c] = if Lib.index r [c] == -1 then -1 else Lib.index r [c] + 1 := by
    rw [Lib.index]
    have : ([c] : List UInt8).isPrefixOf (x :: r) = false := by simp [List.isPrefixOf, Ne.symm hx]
    rw [this]; rfl
   cases hk : r.count c with
   | zero =>
    rw [hk] at ih
    simp only [Lib.splitK] at ih ⊢
    injection ih with i1 i2
    rw [← i1, ← i2]; rfl
   | succ k =>
    rw [hk] at ih
    simp only [Lib.splitK] at ih ⊢
    rw [hix]
    by_cases hm : Lib.index r [c] = -1
    ·rw [hm] at ih ⊢
     simp only [beq_self_eq_true, if_true] at ih ⊢
     injection ih with i1 i2
     rw [← i1, ← i2]; rfl
    ·have hge := Lib.index_ge r [c]
     have hb : (Lib.index r [c] == -1) = false := beq_eq_false_iff_ne.2 hm
     have hb2 : (Lib.index r [c] + 1 == -1) = false := beq_eq_false_iff_ne.2 (by omega)
     rw [hb] at ih ⊢
     simp only [Bool.false_eq_true, if_false] at ih ⊢
     rw [hb2]
     simp only [Bool.false_eq_true, if_false]
     injection ih with i1 i2
     have e : (Lib.index r [c] + 1).toNat = (Lib.index r [c]).toNat + 1 := by omega
     rw [e, Nat.add_zero, List.take_succ_cons]
     rw [Nat.add_zero] at i1
     rw [i1, ← i2]
     simp
theorem gen_ (s : ByteArray) (hs : s.size ≤ 1000000) (H : Hp) : CallO Tryz.prog 140 [pv (.string s), pv (.string ⟨#[46]⟩), pv (.int .i64 0), pv (.int .i64 (-1))] H [] fun e H' G' => e = .ret (.si (.ce (.self 0))) ∧ H' = H ∧ G' = [.row 9 1 (partsL 46 [] s.data.toList).length (stC (partsL 46 [] s.data.toList))] := by
 have hsl : s.data.toList.length = s.size := by rw [Array.length_toList]; rfl
 have hcnt : Lib.countB s ⟨#[46]⟩ = s.data.toList.count 46 := by
  show Lib.count s.data.toList [46] = _
  exact Lib.count_one 46 _
 have hle : s.data.toList.count 46 ≤ s.size := by rw [← hsl]; exact List.count_le_length
 have hall := Lib.splitB_all ⟨#[46]⟩ (by decide) 0 _ s rfl
 have hparts : (Lib.splitB ⟨#[46]⟩ 0 (Lib.countB s ⟨#[46]⟩) s).map (·.data.toList) = partsL 46 [] s.data.toList := by
  rw [Lib.splitB_data, hcnt]
  exact splitK_parts 46 _
 have hcells : (Lib.splitB ⟨#[46]⟩ 0 (Lib.countB s ⟨#[46]⟩) s).map Value.string = stC (partsL 46 [] s.data.toList) := by
  rw [← hparts]
  unfold stC
  rw [List.map_map]
  refine List.map_congr_left fun x _ => ?_
  show Value.string x = Value.string ⟨x.data.toList.toArray⟩
  cases x; simp
 have hpl : (partsL 46 [] s.data.toList).length = Lib.countB s ⟨#[46]⟩ + 1 := by rw [← hparts, List.length_map, hall]
 refine (CallO.of_calls_row (P := Tryz.prog) (t := 9) (args := [.string s, .string ⟨#[46]⟩, .int .i64 0, .int .i64 (-1)]) (R := fun n xs => n = (partsL 46 [] s.data.toList).length ∧ xs = stC (partsL 46 [] s.data.toList)) fun w _ _ => ?_).mono ?_
 ·refine (Any.strings_genSplit_core Tryz.laysGen (by kernel_rfl) s ⟨#[46]⟩ 0 (-1) (Lib.countB s ⟨#[46]⟩ + 1) w (by omega) (by decide) (by decide) (fun x c _ => ?_) ?_ (by decide) (by decide) (by rw [if_pos (by decide), hcnt]; omega)).mono ?_
  ·refine (Any.strings_Index_one Tryz.laysIndex x 46 _).mono ?_
   rintro e w' ⟨rfl, rfl⟩
   refine ⟨?_, rfl⟩
   have : Lib.indexB x ⟨#[46]⟩ = Lib.indexByte x.data.toList 46 := Lib.index_one x.data.toList 46
   rw [this]
  ·refine (Any.strings_Count_one Tryz.laysCount s 46 w).mono ?_
   rintro e w' ⟨rfl, rfl⟩
   rw [hcnt]
   exact ⟨rfl, rfl⟩
  ·rintro e w' ⟨rfl, rfl⟩
   rw [Nat.add_sub_cancel, hall]
   have hcf : Lib.cellsOf (Lib.splitB ⟨#[46]⟩ 0 (Lib.countB s ⟨#[46]⟩) s) (Lib.countB s ⟨#[46]⟩ + 1) = (stC (partsL 46 [] s.data.toList)).toArray := by
    rw [← hall, Lib.cellsOf_full, hcells]
   rw [hcf]
   have hlen : (stC (partsL 46 [] s.data.toList)).length = Lib.countB s ⟨#[46]⟩ + 1 := by rw [stC_len, hpl]
   refine ⟨_, _, stC (partsL 46 [] s.data.toList), _, rfl, heap_alloc_new w _, hlen, Nat.le_refl _, ?_, ?_, ?_, ⟨hpl.symm, rfl⟩, ?_⟩
   ·rw [hcnt]; simp only [maxLen]; omega
   ·rw [List.size_toArray, hlen]; exact Nat.le_refl _
   ·rw [← hlen]; exact List.take_of_length_le (Nat.le_refl _)
   ·exact World.grownBy_alloc w _ none
 ·rintro e H' G' hle ⟨n, xs, ⟨rfl, rfl⟩, rfl, rfl, rfl⟩
  exact ⟨rfl, rfl, rfl⟩
theorem split_ (s : ByteArray) (hs : s.size ≤ 1000000) (H : Hp) : CallO Tryz.prog 92 [pv (.string s), pv (.string ⟨#[46]⟩)] H [] fun e H' G' => e = .ret (.si (.ce (.self 0))) ∧ H' = H ∧ G' = [.row 9 1 (partsL 46 [] s.data.toList).length (stC (partsL 46 [] s.data.toList))] := by
 refine CallO.of_body tab Tryz.func92 rfl (nt := Tryz.f92.ntmps) rfl (by kernel_rfl) ?_
 (conv => whnf)
 refine ⟨⟨_, Tryz.func140, rfl, by kernel_rfl⟩, CallS.use (gen_ s hs H) [] rfl rfl trivial ?_⟩
 rintro e H1 G' hle1 ⟨rfl, rfl, rfl⟩
 (conv => whnf)
 exact ⟨rfl, rfl, rfl⟩
end Go.Kx.Pa
namespace Go.Kx.En
open Go.Proofs Go.Kx Go.RowKit Go.Kx.Js Go.Kx.Pr Go.Kx.Bu
set_option maxRecDepth 20000
set_option linter.unusedSimpArgs false
def T : Tab := [(213, { k := TK.st [(0, 3, 1), (1, 3, 1)], agg := true, size := 2, bytes := 16, zero := [Z.i IntKind.i64, Z.i IntKind.i64] }), (89, { k := TK.st [(0, 87, 1), (1, 32, 1)], agg := true, size := 2, bytes := 32, zero := [Z.p, Z.sl] }), (5, { k := TK.int IntKind.u8, agg := false, size := 1, bytes := 1, zero := [Z.i IntKind.u8] }), (9, { k := TK.string, agg := false, size := 1, bytes := 16, zero := [Z.s] }), (32, { k := TK.slice 5, agg := false, size := 1, bytes := 24, zero := [Z.sl] }), (140, { k := TK.func, agg := false, size := 1, bytes := 8, zero := [Z.fn] }), (3, { k := TK.int IntKind.i64, agg := false, size := 1, bytes := 8, zero := [Z.i IntKind.i64] }), (4, { k := TK.bool, agg := false, size := 1, bytes := 1, zero := [Z.b] }), (93, { k := TK.ifc, agg := false, size := 1, bytes := 16, zero := [Z.ifc] }), (40, { k := TK.int IntKind.i64, agg := false, size := 1, bytes := 8, zero := [Z.i IntKind.i64] }), (240, { k := TK.ptr 213, agg := false, size := 1, bytes := 8, zero := [Z.p] }), (87, { k := TK.ptr 89, agg := false, size := 1, bytes := 8, zero := [Z.p] })]
set_option maxRecDepth 100000 in
theorem tab : TabOk Tryz.prog T := tabOk_mk (ts := [213, 89, 5, 9, 32, 140, 3, 4, 93, 40, 240, 87]) (by kernel_rfl)
theorem mixed : Tryz.prog.follows .mixedOrders = true := by kernel_rfl
def bitB (r n : Int) : SB := .box 213 [.val (.int .i64 r), .val (.int .i64 n)]
theorem ofI (x : Nat) : BitVec.ofInt 64 (x : Int) = BitVec.ofNat 64 x := by simp
theorem orW (x c : Nat) (hx : x < 9223372036854775808) (hc : c < 9223372036854775808) : IntKind.i64.wrap (((BitVec.ofInt IntKind.i64.bits (x : Int) ||| BitVec.ofInt IntKind.i64.bits (c : Int)).toNat : Nat) : Int) = ((x ||| c : Nat) : Int) := by
 show IntKind.i64.wrap (((BitVec.ofInt 64 (x : Int) ||| BitVec.ofInt 64 (c : Int)).toNat : Nat) : Int) = ((x ||| c : Nat) : Int)
 rw [ofI, ofI, BitVec.toNat_or, BitVec.toNat_ofNat, BitVec.toNat_ofNat, Nat.mod_eq_of_lt (by omega), Nat.mod_eq_of_lt (by omega)]
 have : x ||| c < 2 ^ 63 := Nat.or_lt_two_pow (by omega) (by omega)
 rw [wrap64 (by omega) (by omega)]
theorem andW (x c : Nat) (hx : x < 9223372036854775808) (hc : c < 9223372036854775808) : IntKind.i64.wrap (((BitVec.ofInt IntKind.i64.bits (x : Int) &&& BitVec.ofInt IntKind.i64.bits (c : Int)).toNat : Nat) : Int) = ((x &&& c : Nat) : Int) := by
 show IntKind.i64.wrap (((BitVec.ofInt 64 (x : Int) &&& BitVec.ofInt 64 (c : Int)).toNat : Nat) : Int) = ((x &&& c : Nat) : Int)
 rw [ofI, ofI, BitVec.toNat_and, BitVec.toNat_ofNat, BitVec.toNat_ofNat, Nat.mod_eq_of_lt (by omega), Nat.mod_eq_of_lt (by omega)]
 have : x &&& c < 2 ^ 63 := Nat.and_lt_two_pow x (by omega)
 rw [wrap64 (by omega) (by omega)]
theorem push_ (r n c w : Nat) (hr : r < 64) (hn : n < 16) (hw : w ≤ 8) (hc : c < 2 ^ w) (H : Hp) : CallO Tryz.prog 161 [.si (.ce (.ptr 0 0)), pv (.int .i64 c), pv (.int .i64 w)] H [bitB r n] fun e H' G' => e = .ret (.tu []) ∧ H' = H ∧ G' = [bitB (r * 2 ^ w + c : Nat) (n + w : Nat)] := by
 refine CallO.of_body tab Tryz.func161 rfl (nt := Tryz.f161.ntmps) rfl (by kernel_rfl) ?_
 (conv => whnf)
 refine ⟨by omega, ?_⟩
 (conv => whnf)
 have h2 : (2 : Nat) ^ w ≤ 2 ^ 8 := Nat.pow_le_pow_right (by omega) hw
 have h3 : r * 2 ^ w ≤ 63 * 256 := Nat.mul_le_mul (by omega) h2
 have e1 : IntKind.i64.wrap ((r : Int) * 2 ^ min (w : Int).toNat IntKind.i64.bits) = ((r * 2 ^ w : Nat) : Int) := by
  have : min (w : Int).toNat IntKind.i64.bits = w := by
   rw [Int.toNat_natCast]
   exact Nat.min_eq_left (Nat.le_trans hw (by decide))
  rw [this]
  have e : ((r : Int) * 2 ^ w) = ((r * 2 ^ w : Nat) : Int) := by simp
  rw [e, wrap64 (by omega) (by omega)]
 rw [e1, orW _ _ (by omega) (by have := Nat.pow_le_pow_right (n := 2) (by omega) hw; omega), wrap64 (x := (n : Int) + w) (by omega) (by omega)]
 have e2 : r * 2 ^ w ||| c = r * 2 ^ w + c := by rw [Nat.mul_comm, ← Nat.two_pow_add_eq_or_of_lt hc r]
 rw [e2]
 exact ⟨rfl, rfl, rfl⟩
theorem pop_ (r n w : Nat) (hr : r < 65536) (hn : n < 32) (hw : w ≤ 8) (H : Hp) : CallO Tryz.prog 162 [.si (.ce (.ptr 0 0)), pv (.int .i64 w)] H [bitB r n] fun e H' G' => (n < w → e = .ret (.tu [.ce (.val (.int .i64 0)), .ce (.val (.bool false))]) ∧ G' = [bitB r n]) ∧ (¬ n < w → e = .ret (.tu [.ce (.val (.int .i64 ((r / 2 ^ (n - w) : Nat) : Int))), .ce (.val (.bool true))]) ∧ G' = [bitB (r % 2 ^ (n - w) : Nat) (n - w : Nat)]) ∧ H' = H := by
 refine CallO.of_body tab Tryz.func162 rfl (nt := Tryz.f162.ntmps) rfl (by kernel_rfl) ?_
 (conv => whnf)
 refine br.of (fun h1 => ?_) (fun h1 => ?_) <;> (conv => whnf)
 ·have h1 := of_decide_eq_true h1
  exact ⟨fun _ => ⟨rfl, rfl⟩, fun h => absurd (by omega) h, rfl⟩
 have h1 := of_decide_eq_false h1
 rw [wrap64 (x := (n : Int) - w) (by omega) (by omega)]
 refine WS.draw tab mixed (.take 0 (.take 1 (.take 2 (.take 3 (.take 4 (.take 5 (.take 6 (.take 7 (.take 8 (.take 9 .done)))))))))) (by kernel_rfl) [] ?_
 (conv => whnf)
 refine ⟨by omega, ?_⟩
 (conv => whnf)
 obtain ⟨q, hq⟩ : ∃ q : Nat, n - w = q := ⟨_, rfl⟩
 have hqi : (n : Int) - w = (q : Int) := by omega
 have hq32 : q < 32 := by omega
 rw [hqi, hq]
 have hp : (2 : Nat) ^ q ≤ 2 ^ 31 := Nat.pow_le_pow_right (by omega) (by omega)
 have hp0 : 0 < (2 : Nat) ^ q := Nat.two_pow_pos q
 have hmin : min (q : Int).toNat IntKind.i64.bits = q := by
  rw [Int.toNat_natCast]
  exact Nat.min_eq_left (Nat.le_trans (by omega : q ≤ 64) (by decide))
 have hdiv : (r : Int).fdiv (2 ^ min (q : Int).toNat IntKind.i64.bits) = ((r / 2 ^ q : Nat) : Int) := by
  rw [hmin]
  have : ((2 : Int) ^ q) = ((2 ^ q : Nat) : Int) := by simp
  rw [this, Int.fdiv_eq_ediv_of_nonneg _ (by omega)]; rfl
 rw [hdiv]
 have hsh : IntKind.i64.wrap (IntKind.i64.wrap ((1 : Int) * 2 ^ min (q : Int).toNat IntKind.i64.bits) - 1) = ((2 ^ q - 1 : Nat) : Int) := by
  rw [hmin]
  have : ((2 : Int) ^ q) = ((2 ^ q : Nat) : Int) := by simp
  rw [this, Int.one_mul]
  clear hdiv this
  generalize (2 : Nat) ^ q = P at *
  rw [wrap64 (x := (P : Int)) (by omega) (by omega), wrap64 (by omega) (by omega)]
  omega
 have hlt : 2 ^ q - 1 < 9223372036854775808 := by omega
 have hr2 : r < 9223372036854775808 := by omega
 have hq0 : (0 : Int) ≤ (q : Int) := by omega
 refine WS.draw tab mixed (.take 0 (.take 1 (.take 2 (.take 4 (.take 5 (.take 6 (.alt 3 (.alt 7 (.take 8 (.take 9 (.take 10 (.take 11 (.take 12 (.alt 13 .done .no)))))) .no) (.alt 7 (.take 8 (.take 9 (.alt 3 (.take 10 (.take 11 (.take 12 (.alt 13 .done .no)))) .no))) .no)))))))) (by kernel_rfl) [0] ?_
 (conv => whnf)
 repeat' (first | exact trivial | exact rfl | exact ⟨fun h => absurd h (by omega), fun _ => ⟨rfl, rfl⟩, rfl⟩ | (refine ⟨hq0, ?_⟩; (conv => whnf)) | (rw [hsh, andW r (2 ^ q - 1) hr2 hlt, Nat.and_two_pow_sub_one_eq_mod]; (conv => whnf)) | (refine And.intro ?_ ?_ <;> (conv => whnf)))
end Go.Kx.En
namespace Go.Kx
open Go.RowKit
section
variable {P : Program}
theorem WS.nilCell {n e : Nat} {D : Pin} {c : Code} {K : KT} {F : Fr} {H : Hp} {G : List SB} (k i : Nat) {t : TypeId} {cs : List SC} (et sz : Nat) (hk : G[k]? = some (.box t cs)) (hi : cs[i]? = some (.val (.slice none 0 0)))
  (h : WS P n e D c K F H (G.set k (.box t (cs.set i (.self G.length))) ++ [.row et sz 0 []])) : WS P n e D c K F H G := by
 refine ⟨fun w0 M hgd H0 ρ a w hs hf hd hn => ?_⟩
 have hs' := hs.nilCell et sz hk hi
 exact wp_mono (h.to w0 M hgd H0 _ a w hs' (hf.mono (Pre.append _ _)) hd hn) (PostX.le (Pre.append _ _).toE (.refl _))
end
end Go.Kx
namespace Go.Kx.En
open Go.Proofs Go.Kx Go.RowKit Go.Kx.Js Go.Kx.Pr Go.Kx.Bu
set_option maxRecDepth 20000
set_option linter.unusedSimpArgs false
def lettersL : List UInt8 := [65, 66, 67, 68, 69, 70, 71, 72, 73, 74, 75, 76, 77, 78, 79, 80, 81, 82, 83, 84, 85, 86, 87, 88, 89, 90, 97, 98, 99, 100, 101, 102, 103, 104, 105, 106, 107, 108, 109, 110, 111, 112, 113, 114, 115, 116, 117, 118, 119, 120, 121, 122, 48, 49, 50, 51, 52, 53, 54, 55, 56, 57, 45, 95]
def letterP (n : Nat) : UInt8 := lettersL.getD n 0
theorem letter_at (n : Nat) : byteAt ⟨lettersL.toArray⟩ (n : Int) = ((letterP n).toNat : Int) := by
 unfold byteAt letterP
 rw [Int.toNat_natCast]
def popsP : Nat → Nat → Nat → List UInt8 × Nat × Nat
 | 0, r, n => ([], r, n)
 | f + 1, r, n => if n < 6 then ([], r, n) else ((letterP (r / 2 ^ (n - 6))) :: (popsP f (r % 2 ^ (n - 6)) (n - 6)).1, (popsP f (r % 2 ^ (n - 6)) (n - 6)).2)
def encG : Nat → Nat → List UInt8 → List UInt8
 | r, n, [] => if 0 < n then [letterP (r * 2 ^ (6 - n))] else []
 | r, n, c :: l => (popsP 3 (r * 2 ^ 8 + c.toNat) (n + 8)).1 ++ encG (popsP 3 (r * 2 ^ 8 + c.toNat) (n + 8)).2.1 (popsP 3 (r * 2 ^ 8 + c.toNat) (n + 8)).2.2 l
def encP (l : List UInt8) : List UInt8 := encG 0 0 l
theorem popsP_inv : ∀ (f r n : Nat), n < 6 * (f + 1) → r < 2 ^ n → (popsP f r n).2.2 < 6 ∧ (popsP f r n).2.1 < 2 ^ (popsP f r n).2.2 ∧ (popsP f r n).1.length ≤ f
 | 0, r, n, h, hr => ⟨by simpa [popsP] using h, by simpa [popsP] using hr, by simp [popsP]⟩
 | f + 1, r, n, h, hr => by
  unfold popsP
  split
  ·exact ⟨by assumption, hr, by simp⟩
  ·obtain ⟨h1, h2, h3⟩ := popsP_inv f (r % 2 ^ (n - 6)) (n - 6) (by omega) (Nat.mod_lt _ (Nat.two_pow_pos _))
   exact ⟨h1, h2, by simp only [List.length_cons]; omega⟩
abbrev clo : SV := .si (.ce (.fn (.func 83) 1 [(0, 0)]))
theorem _root_.Go.Kx.BytesZ.full {H : Hp} {A : Option Addr} {n : Nat} {bs : List UInt8} (h : BytesZ H A n bs) (h0 : n ≠ 0) : BytesAt H A n bs := ⟨h.1, h.2.1, fun a e => (h.2.2 a e).resolve_left h0⟩
theorem encZ_ (bs : List UInt8) (A : Option Addr) (c : Nat) (hn : bs.length ≤ 1000000) (H : Hp) (hb : BytesZ H A bs.length bs) :
  CallO Tryz.prog 116 [pv (.slice A bs.length c)] H [] fun e H' G' => e = .ret (pv (.string ⟨(encP bs).toArray⟩)) ∧ H.Le H' ∧ G' = [] := by
 refine CallO.of_body tab Tryz.func116 rfl (nt := Tryz.f116.ntmps) rfl (by kernel_rfl) ?_
 (conv => whnf)
 refine WS.nilCell 0 1 5 1 rfl rfl ?_
 refine WS.loop (fun k' F H3 G => ∃ (i : Nat) (w : Bool) (r k : Nat) (out : List UInt8), i ≤ bs.length ∧ k < 6 ∧ r < 2 ^ k ∧ out.length ≤ 3 * i ∧ out ++ encG r k (bs.drop i) = encP bs ∧ k' = bs.length - i ∧ F = [(3, .si (.ce (.ptr 0 0))), (4, .si (.ce (.ptr 1 0))), (5, clo), (13, pv (.slice A bs.length c)), (14, pv (.int .i64 bs.length)), (15, pv (.int .i64 i))] ∧ H.Le H3 ∧ G = [bB w (.self 2), bitB r k, rB out]) (bs.length + 1) ?_ ?_
 ·refine ⟨bs.length, by omega, _, _, [0, 1, 2], ⟨0, false, 0, 0, [], by omega, by omega, by omega, by simp, rfl, rfl, rfl, .refl _, rfl⟩, ?_⟩
  exact ⟨rfl, ⟨rfl, rfl, rfl, trivial⟩, rfl, rfl, rfl, rfl, rfl, rfl, trivial⟩
 rintro k' F H3 G hle3 ⟨i, w, r, k, out, hi, hk6, hrk, hol, henc, rfl, rfl, hle4, rfl⟩
 refine codeL.go tab ?_
 (conv => whnf)
 refine br.of (fun h1 => ?_) (fun h1 => ?_) <;> (conv => whnf)
 ·have h1 := of_decide_eq_true h1
  have hil : i < bs.length := by omega
  have hget : bs[i]? = some (bs[i]'hil) := List.getElem?_eq_getElem _
  have hdr : bs.drop i = bs[i]'hil :: bs.drop (i + 1) := List.drop_eq_getElem_cons hil
  generalize bs[i]'hil = x at hget hdr
  have hx : x.toNat < 256 := x.toNat_lt
  have hr64 : r < 64 := Nat.lt_of_lt_of_le hrk (Nat.le_trans (Nat.pow_le_pow_right (by omega) (show k ≤ 6 by omega)) (by decide))
  obtain ⟨gb, go, hA, hcell⟩ : ∃ b o, A = some ⟨b, o, none⟩ ∧ RdC H3 A ((i : Int).toNat * 1) (.int .u8 x.toNat) := by
   obtain ⟨q1, q2, q3⟩ := hb.mono hle4
   cases A with
   | none => rw [q2 rfl] at hil; simp at hil
   | some a =>
    obtain ⟨b, o, e1, e2⟩ := (q3 a rfl).resolve_left (by omega)
    refine ⟨b, o, e1, b, o, e1, ?_⟩
    have := e2 i (.int .u8 x.toNat) (by unfold bCells; simp [hget])
    rw [← this]; congr 1; omega
  refine ⟨⟨by omega, by omega⟩, ⟨_, _, hA⟩, ?_⟩
  (conv => whnf)
  refine ⟨_, hcell, ?_⟩
  (conv => whnf)
  rw [wrap64 (x := (x.toNat : Int)) (by omega) (by omega)]
  refine ⟨⟨_, Tryz.func161, rfl, by kernel_rfl⟩, CallS.use (push_ r k x.toNat 8 hr64 (by omega) (by omega) (by omega) H3) [1] rfl rfl ⟨rfl, trivial⟩ ?_⟩
  rintro e H4 G' hle5 ⟨rfl, rfl, rfl⟩
  (conv => whnf)
  rw [hdr, encG] at henc
  have hr1 : r * 2 ^ 8 + x.toNat < 2 ^ (k + 8) := by
   rw [Nat.pow_add]
   have : r * 2 ^ 8 + 256 ≤ 2 ^ k * 2 ^ 8 := by
    have := Nat.mul_le_mul_right (2 ^ 8) (show r + 1 ≤ 2 ^ k by omega)
    omega
   omega
  obtain ⟨p1, p2, p3⟩ := popsP_inv 3 (r * 2 ^ 8 + x.toNat) (k + 8) (by omega) hr1
  have hr16 : r * 2 ^ 8 + x.toNat < 65536 := by omega
  generalize r * 2 ^ 8 + x.toNat = R at *
  generalize hK : k + 8 = K1 at *
  have hK16 : K1 < 16 := by omega
  generalize hPP : popsP 3 R K1 = PP at *
  obtain ⟨PL, PR, PK⟩ := PP
  refine WS.loop (fun k' F H5 G => ∃ (w : Bool) (r2 k2 f : Nat) (o2 : List UInt8), k2 ≤ 15 ∧ r2 < 2 ^ k2 ∧ k2 < 6 * (f + 1) ∧ f ≤ 3 ∧ o2.length + f ≤ out.length + 3 ∧ o2 ++ (popsP f r2 k2).1 = out ++ PL ∧ (popsP f r2 k2).2 = (PR, PK) ∧ k' = k2 ∧ F = [(3, .si (.ce (.ptr 0 0))), (4, .si (.ce (.ptr 1 0))), (5, clo), (13, pv (.slice A bs.length c)), (14, pv (.int .i64 bs.length)), (15, pv (.int .i64 i))] ∧ H4.Le H5 ∧ G = [bB w (.self 2), bitB r2 k2, rB o2]) 16 ?_ ?_
  ·refine ⟨K1, by omega, _, _, [0, 1, 2], ⟨w, R, K1, 3, out, by omega, hr1, by omega, by omega, by omega, by rw [hPP], by rw [hPP], rfl, rfl, .refl _, rfl⟩, ?_⟩
   cases w <;> exact ⟨rfl, ⟨rfl, rfl, rfl, trivial⟩, rfl, rfl, rfl, rfl, rfl, rfl, trivial⟩
  rintro k2 F H5 G hle6 ⟨w2, r2, k3, f, o2, hk15, hr2, hkf, hf3, hol2, he1, he2, rfl, rfl, hle7, rfl⟩
  refine codeL.go tab ?_
  (conv => whnf)
  have hr2s : r2 < 65536 := Nat.lt_of_lt_of_le hr2 (Nat.le_trans (Nat.pow_le_pow_right (by omega) (show k2 ≤ 16 by omega)) (by decide))
  refine ⟨⟨_, Tryz.func162, rfl, by kernel_rfl⟩, CallS.use (pop_ r2 k2 6 hr2s (by omega) (by omega) H5) [1] rfl rfl ⟨rfl, trivial⟩ ?_⟩
  rintro e H6 G' hle8 ⟨hp1, hp2, rfl⟩
  clear hr2s
  by_cases hk2 : k2 < 6
  ·obtain ⟨rfl, rfl⟩ := hp1 hk2
   (conv => whnf)
   have hpp : popsP f r2 k2 = ([], r2, k2) := by
    cases f with
    | zero => rfl
    | succ f => rw [popsP, if_pos hk2]
   rw [hpp] at he1 he2
   simp only [List.append_nil] at he1
   injection he2 with he3 he4
   subst he1 he3 he4
   rw [wrap64 (x := (i : Int) + 1) (by omega) (by omega)]
   refine ⟨bs.length - (i + 1), by omega, _, _, [0, 1, 2], ⟨i + 1, w2, r2, k2, out ++ PL, by omega, hk2, p2, by rw [List.length_append]; simp only at p3; omega, by rw [← henc]; simp only [List.append_assoc], rfl, rfl, hle4.trans (hle7.trans hle8), rfl⟩, ?_⟩
   cases w2 <;> exact ⟨rfl, ⟨rfl, rfl, rfl, trivial⟩, rfl, rfl, rfl, rfl, rfl, rfl, trivial⟩
  ·obtain ⟨rfl, rfl⟩ := hp2 hk2
   (conv => whnf)
   obtain ⟨f2, rfl⟩ : ∃ f2, f = f2 + 1 := ⟨f - 1, by omega⟩
   rw [popsP, if_neg hk2] at he1 he2
   have hpw : 2 ^ k2 = 64 * 2 ^ (k2 - 6) := by
    rw [show (64 : Nat) = 2 ^ 6 by rfl, ← Nat.pow_add]
    congr 1; omega
   have hq64 : r2 / 2 ^ (k2 - 6) < 64 := by
    rw [Nat.div_lt_iff_lt_mul (Nat.two_pow_pos _), ← hpw]; exact hr2
   have hmod : r2 % 2 ^ (k2 - 6) < 2 ^ (k2 - 6) := Nat.mod_lt _ (Nat.two_pow_pos _)
   have hla := letter_at (r2 / 2 ^ (k2 - 6))
   generalize r2 / 2 ^ (k2 - 6) = Q at *
   generalize r2 % 2 ^ (k2 - 6) = R2 at *
   clear hpw
   refine ⟨⟨Int.natCast_nonneg _, by show (Q : Int) < 64; omega⟩, ?_⟩
   (conv => whnf)
   cases w2
   all_goals
    first
     | refine ⟨⟨_, Tryz.func83, rfl, by kernel_rfl⟩, CallS.use (writeByte true o2 (letterP Q) (byteAt ⟨lettersL.toArray⟩ Q) hla (by omega) H6) [0, 2] rfl rfl ⟨rfl, rfl, trivial⟩ ?_⟩
     | refine ⟨⟨_, Tryz.func83, rfl, by kernel_rfl⟩, CallS.use (writeByte false o2 (letterP Q) (byteAt ⟨lettersL.toArray⟩ Q) hla (by omega) H6) [0, 2] rfl rfl ⟨rfl, rfl, trivial⟩ ?_⟩
    rintro e H7 G' hle9 ⟨rfl, hl9, rfl⟩
    (conv => whnf)
    refine ⟨k2 - 6, by omega, _, _, [0, 1, 3], ⟨true, R2, k2 - 6, f2, o2 ++ [letterP Q], by omega, hmod, by omega, by omega, by rw [List.length_append]; simp only [List.length_cons, List.length_nil]; omega, by rw [← he1]; simp only [List.append_assoc, List.cons_append, List.nil_append], he2, rfl, rfl, hle7.trans (hle8.trans hl9), rfl⟩, ?_⟩
    exact ⟨rfl, ⟨rfl, rfl, rfl, trivial⟩, rfl, rfl, rfl, rfl, rfl, rfl, trivial⟩
 ·have h1 := of_decide_eq_false h1
  obtain rfl : i = bs.length := by omega
  rw [List.drop_of_length_le (Nat.le_refl _), encG] at henc
  cases w
  all_goals
   refine br.of (fun h2 => ?_) (fun h2 => ?_) <;> (conv => whnf)
   ·have h2 := of_decide_eq_true h2
    have hk0 : 0 < k := by omega
    rw [if_pos hk0] at henc
    have hr64 : r < 64 := Nat.lt_of_lt_of_le hrk (Nat.le_trans (Nat.pow_le_pow_right (by omega) (show k ≤ 6 by omega)) (by decide))
    have hw6 : IntKind.i64.wrap (6 - (k : Int)) = ((6 - k : Nat) : Int) := by rw [wrap64 (by omega) (by omega)]; omega
    rw [hw6]
    refine ⟨⟨_, Tryz.func161, rfl, by kernel_rfl⟩, CallS.use (push_ r k 0 (6 - k) hr64 (by omega) (by omega) (Nat.two_pow_pos _) H3) [1] rfl rfl ⟨rfl, trivial⟩ ?_⟩
    rintro e H4 G' hle5 ⟨rfl, rfl, rfl⟩
    (conv => whnf)
    have hkk : k + (6 - k) = 6 := by omega
    have hrm : r * 2 ^ (6 - k) < 64 := by
     have : 2 ^ k * 2 ^ (6 - k) = 64 := by rw [← Nat.pow_add, hkk]
     rw [← this]
     exact Nat.mul_lt_mul_of_pos_right hrk (Nat.two_pow_pos _)
    rw [hkk, Nat.add_zero]
    have hla := letter_at (r * 2 ^ (6 - k))
    generalize r * 2 ^ (6 - k) = Q at *
    refine ⟨⟨_, Tryz.func162, rfl, by kernel_rfl⟩, CallS.use (pop_ Q 6 6 (by omega) (by omega) (by omega) H4) [1] rfl rfl ⟨rfl, trivial⟩ ?_⟩
    rintro e H5 G' hle6 ⟨_, hp2, rfl⟩
    obtain ⟨rfl, rfl⟩ := hp2 (by omega)
    have hq1 : Q / 2 ^ (6 - 6) = Q := by simp
    rw [hq1]
    (conv => whnf)
    refine ⟨⟨Int.natCast_nonneg _, by show (Q : Int) < 64; omega⟩, ?_⟩
    (conv => whnf)
    first
     | refine ⟨⟨_, Tryz.func83, rfl, by kernel_rfl⟩, CallS.use (writeByte true out (letterP Q) (byteAt ⟨lettersL.toArray⟩ Q) hla (by omega) H5) [0, 2] rfl rfl ⟨rfl, rfl, trivial⟩ ?_⟩
     | refine ⟨⟨_, Tryz.func83, rfl, by kernel_rfl⟩, CallS.use (writeByte false out (letterP Q) (byteAt ⟨lettersL.toArray⟩ Q) hla (by omega) H5) [0, 2] rfl rfl ⟨rfl, rfl, trivial⟩ ?_⟩
    rintro e H7 G' hle9 ⟨rfl, hl9, rfl⟩
    (conv => whnf)
    refine ⟨⟨_, Tryz.func41, rfl, by kernel_rfl⟩, CallS.use (string_ true (out ++ [letterP Q]) (by rw [List.length_append]; simp only [List.length_cons, List.length_nil]; omega) H7) [0, 3] rfl rfl ⟨rfl, rfl, trivial⟩ ?_⟩
    rintro e H8 G' hle10 ⟨rfl, rfl, hG⟩
    rw [henc]
    rcases hG with rfl | rfl
    all_goals
     (conv => whnf)
     exact ⟨rfl, hle4.trans (hle5.trans (hle6.trans hl9)), rfl⟩
   ·have h2 := of_decide_eq_false h2
    rw [if_neg (by omega), List.append_nil] at henc
    first
     | refine ⟨⟨_, Tryz.func41, rfl, by kernel_rfl⟩, CallS.use (string_ true out (by omega) H3) [0, 2] rfl rfl ⟨rfl, rfl, trivial⟩ ?_⟩
     | refine ⟨⟨_, Tryz.func41, rfl, by kernel_rfl⟩, CallS.use (string_ false out (by omega) H3) [0, 2] rfl rfl ⟨rfl, rfl, trivial⟩ ?_⟩
    rintro e H8 G' hle10 ⟨rfl, rfl, hG⟩
    rw [henc]
    rcases hG with rfl | rfl
    all_goals
     (conv => whnf)
     exact ⟨rfl, hle4, rfl⟩
theorem enc_ (bs : List UInt8) (A : Option Addr) (c : Nat) (hn : bs.length ≤ 1000000) (H : Hp) (hb : BytesAt H A bs.length bs) :
  CallO Tryz.prog 116 [pv (.slice A bs.length c)] H [] fun e H' G' => e = .ret (pv (.string ⟨(encP bs).toArray⟩)) ∧ H.Le H' ∧ G' = [] := encZ_ bs A c hn H hb.z
end Go.Kx.En
namespace Go.Kx.En
open Go.Proofs Go.Kx Go.RowKit Go.Kx.Js Go.Kx.Pr Go.Kx.Bu
set_option maxRecDepth 20000
set_option linter.unusedSimpArgs false
theorem wrapB (x : Int) : IntKind.u8.wrap x = x % 256 := by unfold IntKind.wrap; rfl
def numL (c : UInt8) : Int := ixB lettersL c
theorem numL_lt (c : UInt8) : numL c < 64 ∧ -1 ≤ numL c := by
 have h : ∀ n : Fin 256, numL (UInt8.ofNat n.val) < 64 ∧ -1 ≤ numL (UInt8.ofNat n.val) := by decide +kernel
 have h1 := h ⟨c.toNat, c.toNat_lt⟩
 simpa using h1
def decG : Nat → Nat → List UInt8 → Option (List UInt8)
 | r, n, [] => if 6 ≤ n ∨ r ≠ 0 then none else some []
 | r, n, c :: l => if numL c < 0 then none else
  if n + 6 < 8 then decG (r * 64 + (numL c).toNat) (n + 6) l else
   match decG ((r * 64 + (numL c).toNat) % 2 ^ (n - 2)) (n - 2) l with
   | none => none
   | some o => some (UInt8.ofNat ((r * 64 + (numL c).toNat) / 2 ^ (n - 2)) :: o)
def decP (s : ByteArray) : Option (List UInt8) := decG 0 0 s.data.toList
def pre (o : List UInt8) : Option (List UInt8) → Option (List UInt8)
 | none => none
 | some l => some (o ++ l)
theorem bAtZ (s : ByteArray) (i : Nat) (h : i < s.size) : ∃ c : UInt8, s.data.toList[i]? = some c ∧ byteAt s (i : Int) = (c.toNat : Int) := by
 have hl : i < s.data.toList.length := by rw [Array.length_toList]; exact h
 refine ⟨s.data.toList[i]'hl, List.getElem?_eq_getElem _, ?_⟩
 unfold byteAt
 rw [Int.toNat_natCast, List.getD_eq_getElem?_getD, List.getElem?_eq_getElem hl]
 rfl
def KD (s : ByteArray) (e : SE) (G' : List SB) : Prop :=
 (decP s = none ∧ e = .ret (.tu [.ce (.val (.slice none 0 0)), .ce (.val (.int .i64 10))]) ∧ G' = []) ∨ (∃ L r k, decP s = some L ∧ e = .ret (.tu [.ce (.self 1), .ce (.val (.int .i64 0))]) ∧ G' = [bitB r k, rB L])
theorem dec0 (s : ByteArray) (hs : s.size ≤ 1000000) (H : Hp) : CallO Tryz.prog 141 [pv (.string s)] H [] fun e _ G' => KD s e G' := by
 have hsl : s.data.toList.length = s.size := by rw [Array.length_toList]; rfl
 refine CallO.of_body tab Tryz.func141 rfl (nt := Tryz.f141.ntmps) rfl (by kernel_rfl) ?_
 (conv => whnf)
 refine WS.nilRow 4 5 1 rfl ?_
 (conv => whnf)
 refine WS.loop (fun k' F H3 G => ∃ (i r k : Nat) (out : List UInt8), i ≤ s.size ∧ (k ≤ 6 ∧ k % 2 = 0) ∧ r < 2 ^ k ∧ out.length ≤ i ∧ pre out (decG r k (s.data.toList.drop i)) = decP s ∧ k' = s.size - i ∧ F = [(0, pv (.string s)), (4, .si (.ce (.self 1))), (5, .si (.ce (.ptr 0 0))), (11, pv (.int .i64 s.size)), (12, pv (.int .i64 i))] ∧ H.Le H3 ∧ G = [bitB r k, rB out]) (s.size + 1) ?_ ?_
 ·refine ⟨s.size, by omega, _, _, [0, 1], ⟨0, 0, 0, [], by omega, by omega, by omega, Nat.le_refl _, ?_, rfl, rfl, .refl _, rfl⟩, ?_⟩
  ·rw [List.drop_zero]
   show pre [] (decP s) = decP s
   cases decP s <;> rfl
  exact ⟨rfl, ⟨rfl, rfl, trivial⟩, rfl, rfl, rfl, rfl, rfl, trivial⟩
 rintro k' F H3 G hle3 ⟨i, r, k, out, hi, ⟨hk6, hkev⟩, hrk, hol, hdec, rfl, rfl, hle4, rfl⟩
 refine codeL.go tab ?_
 (conv => whnf)
 refine br.of (fun h1 => ?_) (fun h1 => ?_) <;> (conv => whnf)
 ·have h1 := of_decide_eq_true h1
  have hil : i < s.size := by omega
  refine ⟨⟨by omega, by omega⟩, ?_⟩
  obtain ⟨x, hx, hv⟩ := bAtZ s i hil
  rw [hv]
  have hd : s.data.toList.drop i = x :: s.data.toList.drop (i + 1) := by
   rw [List.drop_eq_getElem?_toList_append, hx]; rfl
  rw [hd, decG] at hdec
  (conv => whnf)
  have hix := Js.indexByte ⟨lettersL.toArray⟩ x H3 []
  have hnl : ixB (⟨lettersL.toArray⟩ : ByteArray).data.toList x = numL x := rfl
  obtain ⟨hv64, hv1⟩ := numL_lt x
  rw [hnl] at hix
  generalize numL x = v at hix hdec hv64 hv1
  refine ⟨⟨_, Tryz.func75, rfl, by kernel_rfl⟩, CallS.use hix [] rfl rfl trivial ?_⟩
  rintro e H4 G' hle5 ⟨rfl, rfl, rfl⟩
  (conv => whnf)
  refine br.of (fun h2 => ?_) (fun h2 => ?_) <;> (conv => whnf)
  ·have h2 := of_decide_eq_true h2
   rw [if_pos h2] at hdec
   exact .inl ⟨hdec.symm, rfl, rfl⟩
  have h2 := of_decide_eq_false h2
  rw [if_neg h2] at hdec
  obtain ⟨d, rfl⟩ : ∃ d : Nat, v = (d : Int) := ⟨v.toNat, by omega⟩
  rw [Int.toNat_natCast] at hdec
  have hd64 : d < 64 := by omega
  have hr64 : r < 64 := Nat.lt_of_lt_of_le hrk (Nat.le_trans (Nat.pow_le_pow_right (by omega) (show k ≤ 6 by omega)) (by decide))
  refine ⟨⟨_, Tryz.func161, rfl, by kernel_rfl⟩, CallS.use (push_ r k d 6 hr64 (by omega) (by omega) (by omega) H4) [0] rfl rfl ⟨rfl, trivial⟩ ?_⟩
  rintro e H5 G' hle6 ⟨rfl, rfl, rfl⟩
  (conv => whnf)
  have e64 : r * 2 ^ 6 + d = r * 64 + d := rfl
  rw [e64]
  have hR : r * 64 + d < 2 ^ (k + 6) := by
   rw [Nat.pow_add]
   have := Nat.mul_le_mul_right (2 ^ 6) (show r + 1 ≤ 2 ^ k by omega)
   omega
  have hR2 : r * 64 + d < 65536 := by omega
  generalize r * 64 + d = R at *
  refine ⟨⟨_, Tryz.func162, rfl, by kernel_rfl⟩, CallS.use (pop_ R (k + 6) 8 hR2 (by omega) (by omega) H5) [0] rfl rfl ⟨rfl, trivial⟩ ?_⟩
  rintro e H6 G' hle7 ⟨hp1, hp2, rfl⟩
  by_cases hk2 : k + 6 < 8
  ·obtain ⟨rfl, rfl⟩ := hp1 hk2
   rw [if_pos hk2] at hdec
   (conv => whnf)
   rw [wrap64 (x := (i : Int) + 1) (by omega) (by omega)]
   refine ⟨s.size - (i + 1), by omega, _, _, [0, 1], ⟨i + 1, R, k + 6, out, by omega, by omega, hR, by omega, hdec, rfl, rfl, hle4.trans hle7, rfl⟩, ?_⟩
   exact ⟨rfl, ⟨rfl, rfl, trivial⟩, rfl, rfl, rfl, rfl, rfl, trivial⟩
  ·obtain ⟨rfl, rfl⟩ := hp2 hk2
   rw [if_neg hk2] at hdec
   have hk8 : k + 6 - 8 = k - 2 := by omega
   rw [hk8]
   have hpw : 2 ^ (k + 6) = 256 * 2 ^ (k - 2) := by
    rw [show (256 : Nat) = 2 ^ 8 by rfl, ← Nat.pow_add]
    congr 1; omega
   have hq : R / 2 ^ (k - 2) < 256 := by
    rw [Nat.div_lt_iff_lt_mul (Nat.two_pow_pos _), ← hpw]; exact hR
   have hmod : R % 2 ^ (k - 2) < 2 ^ (k - 2) := Nat.mod_lt _ (Nat.two_pow_pos _)
   generalize R / 2 ^ (k - 2) = Q at *
   generalize R % 2 ^ (k - 2) = R3 at *
   (conv => whnf)
   refine ⟨by decide, ?_⟩
   (conv => whnf)
   refine .inl ?_
   intro g H7 hle8 hrd
   (conv => whnf)
   refine ⟨_, rfl, hrd, one_int _ _, ?_⟩
   (conv => whnf)
   refine ⟨by show (out.length + 1) * 2 ≤ _; omega, ?_⟩
   (conv => whnf)
   rw [wrap64 (x := (i : Int) + 1) (by omega) (by omega), wrapB]
   have hb8 : ((Q : Int) % 256) = ((UInt8.ofNat Q).toNat : Int) := by
    rw [UInt8.toNat_ofNat']; omega
   refine ⟨s.size - (i + 1), by omega, _, [bitB R3 (k - 2 : Nat), rB (out ++ [UInt8.ofNat Q])], [0, 2], ⟨i + 1, R3, k - 2, out ++ [UInt8.ofNat Q], by omega, by omega, hmod, by rw [List.length_append]; simp only [List.length_cons, List.length_nil]; omega, ?_, rfl, rfl, hle4.trans (hle7.trans hle8), rfl⟩, ?_⟩
   ·rw [← hdec]
    cases decG R3 (k - 2) (s.data.toList.drop (i + 1)) <;> simp [pre]
   ·refine ⟨rfl, ⟨rfl, ?_, trivial⟩, rfl, rfl, rfl, rfl, rfl, trivial⟩
    rw [show rB (out ++ [UInt8.ofNat Q]) = SB.row 5 1 (out.length + 1) (bCells out ++ [.int .u8 ((Q : Int) % 256)]) by
     unfold Bu.rB
     rw [bCells_snoc out (UInt8.ofNat Q) hb8, List.length_append]; rfl]
    rfl
 ·have h1 := of_decide_eq_false h1
  obtain rfl : i = s.size := by omega
  rw [List.drop_of_length_le (by omega), decG] at hdec
  refine br.of (fun h2 => ?_) (fun h2 => ?_) <;> (conv => whnf)
  ·have h2 := of_decide_eq_true h2
   rw [if_pos (.inl (by omega))] at hdec
   exact .inl ⟨hdec.symm, rfl, rfl⟩
  have h2 := of_decide_eq_false h2
  refine br.of (fun h3 => ?_) (fun h3 => ?_) <;> (conv => whnf)
  ·simp only [bne_iff_ne, ne_eq] at h3
   rw [if_pos (.inr (by omega))] at hdec
   exact .inl ⟨hdec.symm, rfl, rfl⟩
  ·simp only [bne_eq_false_iff_eq] at h3
   rw [if_neg (by omega)] at hdec
   have : decP s = some out := by rw [← hdec]; simp [pre]
   exact .inr ⟨out, r, k, this, rfl, rfl⟩
def RetD (s : ByteArray) (e : SE) (H' : Hp) : Prop :=
 (decP s = none ∧ e = .ret (.tu [.ce (.val (.slice none 0 0)), .ce (.val (.int .i64 10))])) ∨ (∃ L B m c, decP s = some L ∧ e = .ret (.tu [.ce (.val (.slice B m c)), .ce (.val (.int .i64 0))]) ∧ BytesAt H' B m L)
theorem dec_ (s : ByteArray) (hs : s.size ≤ 1000000) (H : Hp) : CallO Tryz.prog 141 [pv (.string s)] H [] fun e H' G' => RetD s e H' ∧ G' = [] := by
 cases hd : decP s with
 | none =>
  refine (dec0 s hs H).mono ?_
  rintro e H' G' hle (⟨h1, rfl, rfl⟩ | ⟨L, r, k, h1, _⟩)
  ·exact ⟨.inl ⟨h1, rfl⟩, rfl⟩
  ·rw [hd] at h1; cases h1
 | some L =>
  refine CallO.sub (CallO.frz (K := fun e H' G' => RetD s e H' ∧ ∃ b, G' = [b, .dead]) (dec0 s hs H) ?_) ?_
  ·rintro e H' G' hle (⟨h1, _⟩ | ⟨L2, r, k, h1, rfl, rfl⟩)
   ·rw [hd] at h1; cases h1
   refine ⟨1, 5, 1, _, _, rfl, fun hz => ?_, fun x H2 hle2 hfr => ?_⟩
   ·have : L2 = [] := List.eq_nil_of_length_eq_zero hz
    rw [this]; rfl
   obtain ⟨B, cc, rfl, hv⟩ := BytesAt.of_frozen rfl hfr
   exact ⟨.inr ⟨L2, B, _, cc, h1, rfl, hv⟩, _, rfl⟩
  ·rintro e H' G' hle ⟨hr, b, rfl⟩
   rcases hr with ⟨h1, rfl⟩ | ⟨L2, B, m, cc, h1, rfl, hv⟩
   ·exact ⟨_, [], [], rfl, trivial, rfl, .inl ⟨h1, rfl⟩, rfl⟩
   ·exact ⟨_, [], [], rfl, trivial, rfl, .inr ⟨L2, B, m, cc, h1, rfl, hv⟩, rfl⟩
end Go.Kx.En
namespace Go.Kx.En
open Go.Proofs Go.Kx Go.RowKit Go.Kx.Js Go.Kx.Pr Go.Kx.Bu
set_option maxRecDepth 20000
set_option linter.unusedSimpArgs false
theorem enc0 (a : UInt8) (l : List UInt8) : encG 0 0 (a :: l) = letterP (a.toNat / 4) :: encG (a.toNat % 4) 2 l := by
 simp [encG, popsP]
theorem enc2 (r : Nat) (b : UInt8) (l : List UInt8) : encG r 2 (b :: l) = letterP ((r * 256 + b.toNat) / 16) :: encG ((r * 256 + b.toNat) % 16) 4 l := by
 simp [encG, popsP]
theorem enc4 (r : Nat) (c : UInt8) (l : List UInt8) : encG r 4 (c :: l) = letterP ((r * 256 + c.toNat) / 64) :: letterP ((r * 256 + c.toNat) % 64) :: encG 0 0 l := by
 simp [encG, popsP, Nat.mod_one]
def four (n : Nat) : List UInt8 := [letterP (n / 262144), letterP (n / 4096 % 64), letterP (n / 64 % 64), letterP (n % 64)]
theorem encP_nil : encP [] = [] := rfl
theorem encP_1 (a : UInt8) : encP [a] = (four (a.toNat * 65536)).take 2 := by
 have := a.toNat_lt
 unfold encP four
 rw [enc0, encG]
 simp only [List.take, if_pos (show 0 < 2 by omega)]
 congr 2
 ·omega
 ·congr 1
  omega
theorem encP_2 (a b : UInt8) : encP [a, b] = (four (a.toNat * 65536 + b.toNat * 256)).take 3 := by
 have := a.toNat_lt
 have := b.toNat_lt
 have e1 : a.toNat / 4 = (a.toNat * 65536 + b.toNat * 256) / 262144 := by omega
 have e2 : (a.toNat % 4 * 256 + b.toNat) / 16 = (a.toNat * 65536 + b.toNat * 256) / 4096 % 64 := by omega
 have e3 : (a.toNat % 4 * 256 + b.toNat) % 16 * 2 ^ (6 - 4) = (a.toNat * 65536 + b.toNat * 256) / 64 % 64 := by
  simp only [Nat.reduceSub, Nat.reducePow]; omega
 unfold encP four
 rw [enc0, enc2, encG, if_pos (show 0 < 4 by omega), e1, e2, e3]
 rfl
theorem encP_3 (a b c : UInt8) (l : List UInt8) : encP (a :: b :: c :: l) = four (a.toNat * 65536 + b.toNat * 256 + c.toNat) ++ encP l := by
 have := a.toNat_lt
 have := b.toNat_lt
 have := c.toNat_lt
 have e1 : a.toNat / 4 = (a.toNat * 65536 + b.toNat * 256 + c.toNat) / 262144 := by omega
 have e2 : (a.toNat % 4 * 256 + b.toNat) / 16 = (a.toNat * 65536 + b.toNat * 256 + c.toNat) / 4096 % 64 := by omega
 have e3 : ((a.toNat % 4 * 256 + b.toNat) % 16 * 256 + c.toNat) / 64 = (a.toNat * 65536 + b.toNat * 256 + c.toNat) / 64 % 64 := by omega
 have e4 : ((a.toNat % 4 * 256 + b.toNat) % 16 * 256 + c.toNat) % 64 = (a.toNat * 65536 + b.toNat * 256 + c.toNat) % 64 := by omega
 unfold encP four
 rw [enc0, enc2, enc4, e1, e2, e3, e4]
 rfl
end Go.Kx.En
namespace Go.Kx.En
open Go.Proofs Go.Kx Go.RowKit Go.Kx.Js Go.Kx.Pr Go.Kx.Bu
set_option maxRecDepth 20000
set_option linter.unusedSimpArgs false
theorem numL_letter (n : Nat) (h : n < 64) : numL (letterP n) = (n : Int) := by
 have h1 : ∀ n : Fin 64, numL (letterP n.val) = (n.val : Int) := by decide +kernel
 exact h1 ⟨n, h⟩
theorem dec_small (r n v : Nat) (hv : v < 64) (l : List UInt8) (h : n + 6 < 8) : decG r n (letterP v :: l) = decG (r * 64 + v) (n + 6) l := by
 rw [decG, numL_letter v hv, if_neg (by omega), if_pos h, Int.toNat_natCast]
theorem dec_big (r n v : Nat) (hv : v < 64) (l o : List UInt8) (h : ¬ n + 6 < 8) (ho : decG ((r * 64 + v) % 2 ^ (n - 2)) (n - 2) l = some o) : decG r n (letterP v :: l) = some (UInt8.ofNat ((r * 64 + v) / 2 ^ (n - 2)) :: o) := by
 rw [decG, numL_letter v hv, if_neg (by omega), if_neg h, Int.toNat_natCast, ho]
theorem ofN {n : Nat} {c : UInt8} (h : n = c.toNat) : UInt8.ofNat n = c := by subst h; simp
theorem dec_enc : ∀ l : List UInt8, decG 0 0 (encG 0 0 l) = some l
 | [] => rfl
 | [a] => by
  have ha := a.toNat_lt
  rw [enc0, dec_small _ _ _ (by omega) _ (by decide)]
  show decG (0 * 64 + a.toNat / 4) 6 (if 0 < 2 then [letterP (a.toNat % 4 * 2 ^ (6 - 2))] else []) = _
  rw [if_pos (by decide), dec_big _ 6 _ (by omega) [] [] (by decide) (by
   rw [show (0 * 64 + a.toNat / 4) * 64 + a.toNat % 4 * 2 ^ (6 - 2) = (a.toNat) * 2 ^ (6 - 2) by omega]
   rw [Nat.mul_mod_left]; rfl)]
  congr 2
  refine ofN ?_
  show ((0 * 64 + a.toNat / 4) * 64 + a.toNat % 4 * 16) / 16 = _
  omega
 | [a, b] => by
  have ha := a.toNat_lt
  have hb := b.toNat_lt
  rw [enc0, enc2, dec_small _ _ _ (by omega) _ (by decide)]
  show decG (0 * 64 + a.toNat / 4) 6 (letterP ((a.toNat % 4 * 256 + b.toNat) / 16) :: (if 0 < 4 then [letterP ((a.toNat % 4 * 256 + b.toNat) % 16 * 2 ^ (6 - 4))] else [])) = _
  rw [if_pos (by decide)]
  have h2 : decG (((0 * 64 + a.toNat / 4) * 64 + (a.toNat % 4 * 256 + b.toNat) / 16) % 2 ^ (6 - 2)) (6 - 2) [letterP ((a.toNat % 4 * 256 + b.toNat) % 16 * 2 ^ (6 - 4))] = some [b] := by
   rw [dec_big _ (6 - 2) _ (by show (_ : Nat) % 16 * 4 < 64; omega) [] [] (by decide) (by
    show decG ((((0 * 64 + a.toNat / 4) * 64 + (a.toNat % 4 * 256 + b.toNat) / 16) % 16 * 64 + (a.toNat % 4 * 256 + b.toNat) % 16 * 4) % 4) 2 [] = some []
    rw [show (((0 * 64 + a.toNat / 4) * 64 + (a.toNat % 4 * 256 + b.toNat) / 16) % 16 * 64 + (a.toNat % 4 * 256 + b.toNat) % 16 * 4) % 4 = 0 by omega]; rfl)]
   congr 2
   refine ofN ?_
   show (((0 * 64 + a.toNat / 4) * 64 + (a.toNat % 4 * 256 + b.toNat) / 16) % 16 * 64 + (a.toNat % 4 * 256 + b.toNat) % 16 * 4) / 4 = _
   omega
  rw [dec_big _ 6 _ (by omega) _ _ (by decide) h2]
  congr 2
  refine ofN ?_
  show ((0 * 64 + a.toNat / 4) * 64 + (a.toNat % 4 * 256 + b.toNat) / 16) / 16 = _
  omega
 | a :: b :: c :: l => by
  have ha := a.toNat_lt
  have hb := b.toNat_lt
  have hc := c.toNat_lt
  have ih := dec_enc l
  rw [enc0, enc2, enc4, dec_small _ _ _ (by omega) _ (by decide)]
  have h3 : decG ((((0 * 64 + a.toNat / 4) * 64 + (a.toNat % 4 * 256 + b.toNat) / 16) % 2 ^ (6 - 2) * 64 + ((a.toNat % 4 * 256 + b.toNat) % 16 * 256 + c.toNat) / 64) % 2 ^ (6 - 2 - 2)) (6 - 2 - 2) (letterP (((a.toNat % 4 * 256 + b.toNat) % 16 * 256 + c.toNat) % 64) :: encG 0 0 l) = some (c :: l) := by
   rw [dec_big _ (6 - 2 - 2) _ (by omega) _ l (by decide) (by
    show decG (_ % 1) 0 _ = _
    rw [Nat.mod_one]; exact ih)]
   congr 2
   refine ofN ?_
   show ((((0 * 64 + a.toNat / 4) * 64 + (a.toNat % 4 * 256 + b.toNat) / 16) % 16 * 64 + ((a.toNat % 4 * 256 + b.toNat) % 16 * 256 + c.toNat) / 64) % 4 * 64 + ((a.toNat % 4 * 256 + b.toNat) % 16 * 256 + c.toNat) % 64) / 1 = _
   omega
  have h2 : decG (((0 * 64 + a.toNat / 4) * 64 + (a.toNat % 4 * 256 + b.toNat) / 16) % 2 ^ (6 - 2)) (6 - 2) (letterP (((a.toNat % 4 * 256 + b.toNat) % 16 * 256 + c.toNat) / 64) :: letterP (((a.toNat % 4 * 256 + b.toNat) % 16 * 256 + c.toNat) % 64) :: encG 0 0 l) = some (b :: c :: l) := by
   rw [dec_big _ (6 - 2) _ (by omega) _ _ (by decide) h3]
   congr 2
   refine ofN ?_
   show (((0 * 64 + a.toNat / 4) * 64 + (a.toNat % 4 * 256 + b.toNat) / 16) % 16 * 64 + ((a.toNat % 4 * 256 + b.toNat) % 16 * 256 + c.toNat) / 64) / 4 = _
   omega
  have h1 := dec_big (0 * 64 + a.toNat / 4) 6 ((a.toNat % 4 * 256 + b.toNat) / 16) (by omega) _ _ (by decide) h2
  show decG (0 * 64 + a.toNat / 4) 6 _ = _
  rw [h1]
  congr 2
  refine ofN ?_
  show ((0 * 64 + a.toNat / 4) * 64 + (a.toNat % 4 * 256 + b.toNat) / 16) / 16 = _
  omega
theorem decP_encP (l : List UInt8) : decP ⟨(encP l).toArray⟩ = some l := by
 unfold decP encP
 exact dec_enc l
theorem letter_dot (n : Nat) (h : n < 64) : letterP n ≠ 46 := by
 have h1 : ∀ n : Fin 64, letterP n.val ≠ 46 := by decide +kernel
 exact h1 ⟨n, h⟩
theorem encP_dot : ∀ (k : Nat) (l : List UInt8), l.length < k → (46 : UInt8) ∉ encP l
 | 0, l, h => by omega
 | k + 1, [], _ => by simp [encP_nil]
 | k + 1, [a], _ => by
  have ha := a.toNat_lt
  rw [encP_1]
  intro h
  have h := List.mem_of_mem_take h
  unfold four at h
  simp only [List.mem_cons, List.mem_nil_iff, or_false] at h
  rcases h with h | h | h | h <;> exact letter_dot _ (by omega) h.symm
 | k + 1, [a, b], _ => by
  have ha := a.toNat_lt
  have hb := b.toNat_lt
  rw [encP_2]
  intro h
  have h := List.mem_of_mem_take h
  unfold four at h
  simp only [List.mem_cons, List.mem_nil_iff, or_false] at h
  rcases h with h | h | h | h <;> exact letter_dot _ (by omega) h.symm
 | k + 1, a :: b :: c :: l, hk => by
  have ha := a.toNat_lt
  have hb := b.toNat_lt
  have hc := c.toNat_lt
  rw [encP_3, List.mem_append]
  rintro (h | h)
  ·unfold four at h
   simp only [List.mem_cons, List.mem_nil_iff, or_false] at h
   rcases h with h | h | h | h <;> exact letter_dot _ (by omega) h.symm
  ·exact encP_dot k l (by simp only [List.length_cons] at hk; omega) h
end Go.Kx.En
namespace Go.Kx.Js
open Go.Proofs Go.Kx Go.RowKit
set_option maxRecDepth 20000
def parseP (bs : List UInt8) (d : Int) : J × Int × Int :=
 if bs.length > 16384 then (jNone, 11, 0) else if d < 1 ∨ d > 32 then (jNone, 12, 0) else if wrongI (strOf bs) ≥ 0 then (jNone, 30, wrongI (strOf bs)) else
 match wholeP d.toNat bs with
 | .ok j _ => (j, 0, 0)
 | .no er r => (jNone, er, ((pos (strOf bs) r : Nat) : Int))
def RP (x : J × Int × Int) (e : SE) (H' : Hp) : Prop := ∃ k y t A n c B m f, e = .ret (.tu [.ag [.val (.int .i64 k), .val (.bool y), .val (.string t), .val (.slice A n c), .val (.slice B m f)], .ce (.val (.int .i64 x.2.1)), .ce (.val (.int .i64 x.2.2))]) ∧ JAt H' x.1 [.int .i64 k, .bool y, .string t, .slice A n c, .slice B m f]
theorem strOf_tL (bs : List UInt8) : tL (strOf bs) = bs := by simp [tL, strOf]
theorem strOf_size (bs : List UInt8) : (strOf bs).size = bs.length := by rw [size_eq, strOf_tL]
theorem parse_ (bs : List UInt8) (A : Option Addr) (n cap : Nat) (d : Int) (H : Hp) (hb : BytesZ H A n bs) (hn : n ≤ 100000) : CallO Tryz.prog 63 [pv (.slice A n cap), pv (.int .i64 d)] H [] fun e H' G' => RP (parseP bs d) e H' ∧ G' = [] := by
 have hlen := hb.1
 have hsz := strOf_size bs
 have zok : ∀ (H : Hp), JAt H jNone [.int .i64 0, .bool false, .string ⟨#[]⟩, .slice none 0 0, .slice none 0 0] := fun H => .bare 0 false ⟨#[]⟩
 refine CallO.of_body tab Tryz.func63 rfl (nt := Tryz.f63.ntmps) rfl (by kernel_rfl) ?_
 (conv => whnf)
 have hconv : (A = none ∧ strOf bs = ⟨#[]⟩) ∨ ∃ a, A = some a ∧ (n = 0 ∨ RdN H (some a) 0 (byteCells (strOf bs))) := by
  cases A with
  | none => exact .inl ⟨rfl, by rw [hb.2.1 rfl]; rfl⟩
  | some a => exact .inr ⟨a, rfl, by rw [← cells_str]; exact hb.2.2 a rfl⟩
 rcases hconv with ⟨rfl, hso⟩ | ⟨a, rfl, hrd⟩
 ·(conv => whnf)
  rw [← hso]
  refine ⟨⟨_, Tryz.func98, rfl, by kernel_rfl⟩, CallS.use (wrong_ (strOf bs) (by omega) H) [] rfl rfl trivial ?_⟩
  rintro e H2 G' hle2 ⟨rfl, rfl⟩
  unfold parseP
  generalize hwi : wrongI (strOf bs) = wi
  generalize hnI : ((n : Nat) : Int) = nI
  (conv => whnf)
  refine br.of (fun h1 => ?_) (fun h1 => ?_) <;> (conv => whnf)
  ·have h1 := of_decide_eq_true h1
   rw [if_pos (by omega)]
   exact ⟨⟨_, _, _, _, _, _, _, _, _, rfl, zok _⟩, rfl⟩
  ·have h1 := of_decide_eq_false h1
   rw [if_neg (by omega)]
   refine br.of (fun h2 => ?_) (fun h2 => ?_) <;> (conv => whnf)
   ·have h2 := of_decide_eq_true h2
    rw [if_pos (by omega)]
    exact ⟨⟨_, _, _, _, _, _, _, _, _, rfl, zok _⟩, rfl⟩
   have h2 := of_decide_eq_false h2
   refine br.of (fun h3 => ?_) (fun h3 => ?_) <;> (conv => whnf)
   ·have h3 := of_decide_eq_true h3
    rw [if_pos (by omega)]
    exact ⟨⟨_, _, _, _, _, _, _, _, _, rfl, zok _⟩, rfl⟩
   ·have h3 := of_decide_eq_false h3
    rw [if_neg (by omega)]
    refine br.of (fun h4 => ?_) (fun h4 => ?_) <;> (conv => whnf)
    ·have h4 := of_decide_eq_true h4
     rw [if_pos (by omega)]
     exact ⟨⟨_, _, _, _, _, _, _, _, _, rfl, zok _⟩, rfl⟩
    ·have h4 := of_decide_eq_false h4
     rw [if_neg (by omega)]
     rw [← hso]
     have hdn : d = ((d.toNat : Nat) : Int) := by omega
     have hrd0 : SB.box 158 [.val (.string (strOf bs)), .val (.int .i64 0), .val (.int .i64 d), .val (.int .i64 0)] = rdB (strOf bs) bs ((d.toNat : Nat) : Int) 0 := by
      unfold rdB pos
      rw [strOf_tL, Nat.sub_self, ← hdn]; rfl
     refine ⟨⟨_, Tryz.func99, rfl, by kernel_rfl⟩, CallS.use (caught_ (strOf bs) (by omega) d.toNat (by omega) bs (by rw [strOf_tL]; exact .refl _) _) [1] rfl rfl ⟨?_, trivial⟩ ?_⟩
     ·exact hrd0
     rintro e H5 G' hle5 ⟨hrc, l2, o2, rfl⟩
     cases hwp : wholeP d.toNat bs with
     | no er r =>
      rw [hwp] at hrc
      obtain rfl := hrc
      (conv => whnf)
      refine WS.draw tab mixed (.take 0 (.take 1 (.take 2 (.take 3 (.take 4 (.alt 5 (.take 6 (.take 7 .done)) .no)))))) (by kernel_rfl) [0] ?_
      (conv => whnf)
      repeat' (first
       | exact trivial
       | exact rfl
       | exact ⟨⟨_, _, _, _, _, _, _, _, _, rfl, zok _⟩, rfl⟩
       | (refine And.intro ?_ ?_ <;> (conv => whnf)))
     | ok j r =>
      rw [hwp] at hrc
      obtain ⟨k, y, t, A2, n2, c2, B, m, f, rfl, hj⟩ := hrc
      (conv => whnf)
      refine WS.draw tab mixed (.take 0 (.take 1 (.take 2 (.take 3 (.take 4 (.alt 5 (.take 6 (.take 7 .done)) .no)))))) (by kernel_rfl) [0] ?_
      (conv => whnf)
      repeat' (first
       | exact trivial
       | exact rfl
       | exact ⟨⟨_, _, _, _, _, _, _, _, _, rfl, hj⟩, rfl⟩
       | (refine And.intro ?_ ?_ <;> (conv => whnf)))
 ·(conv => whnf)
  refine ⟨strOf bs, hsz.trans hlen.symm, hrd, ?_⟩
  (conv => whnf)
  refine ⟨⟨_, Tryz.func98, rfl, by kernel_rfl⟩, CallS.use (wrong_ (strOf bs) (by omega) H) [] rfl rfl trivial ?_⟩
  rintro e H2 G' hle2 ⟨rfl, rfl⟩
  unfold parseP
  generalize hwi : wrongI (strOf bs) = wi
  generalize hnI : ((n : Nat) : Int) = nI
  (conv => whnf)
  refine br.of (fun h1 => ?_) (fun h1 => ?_) <;> (conv => whnf)
  ·have h1 := of_decide_eq_true h1
   rw [if_pos (by omega)]
   exact ⟨⟨_, _, _, _, _, _, _, _, _, rfl, zok _⟩, rfl⟩
  ·have h1 := of_decide_eq_false h1
   rw [if_neg (by omega)]
   refine br.of (fun h2 => ?_) (fun h2 => ?_) <;> (conv => whnf)
   ·have h2 := of_decide_eq_true h2
    rw [if_pos (by omega)]
    exact ⟨⟨_, _, _, _, _, _, _, _, _, rfl, zok _⟩, rfl⟩
   have h2 := of_decide_eq_false h2
   refine br.of (fun h3 => ?_) (fun h3 => ?_) <;> (conv => whnf)
   ·have h3 := of_decide_eq_true h3
    rw [if_pos (by omega)]
    exact ⟨⟨_, _, _, _, _, _, _, _, _, rfl, zok _⟩, rfl⟩
   ·have h3 := of_decide_eq_false h3
    rw [if_neg (by omega)]
    refine br.of (fun h4 => ?_) (fun h4 => ?_) <;> (conv => whnf)
    ·have h4 := of_decide_eq_true h4
     rw [if_pos (by omega)]
     exact ⟨⟨_, _, _, _, _, _, _, _, _, rfl, zok _⟩, rfl⟩
    ·have h4 := of_decide_eq_false h4
     rw [if_neg (by omega)]
     refine ⟨strOf bs, hsz.trans hlen.symm, hrd.imp id (fun h => h.mono hle2), ?_⟩
     (conv => whnf)
     have hdn : d = ((d.toNat : Nat) : Int) := by omega
     have hrd0 : SB.box 158 [.val (.string (strOf bs)), .val (.int .i64 0), .val (.int .i64 d), .val (.int .i64 0)] = rdB (strOf bs) bs ((d.toNat : Nat) : Int) 0 := by
      unfold rdB pos
      rw [strOf_tL, Nat.sub_self, ← hdn]; rfl
     refine ⟨⟨_, Tryz.func99, rfl, by kernel_rfl⟩, CallS.use (caught_ (strOf bs) (by omega) d.toNat (by omega) bs (by rw [strOf_tL]; exact .refl _) _) [1] rfl rfl ⟨?_, trivial⟩ ?_⟩
     ·exact hrd0
     rintro e H5 G' hle5 ⟨hrc, l2, o2, rfl⟩
     cases hwp : wholeP d.toNat bs with
     | no er r =>
      rw [hwp] at hrc
      obtain rfl := hrc
      (conv => whnf)
      refine WS.draw tab mixed (.take 0 (.take 1 (.take 2 (.take 3 (.take 4 (.alt 5 (.take 6 (.take 7 .done)) .no)))))) (by kernel_rfl) [0] ?_
      (conv => whnf)
      repeat' (first
       | exact trivial
       | exact rfl
       | exact ⟨⟨_, _, _, _, _, _, _, _, _, rfl, zok _⟩, rfl⟩
       | (refine And.intro ?_ ?_ <;> (conv => whnf)))
     | ok j r =>
      rw [hwp] at hrc
      obtain ⟨k, y, t, A2, n2, c2, B, m, f, rfl, hj⟩ := hrc
      (conv => whnf)
      refine WS.draw tab mixed (.take 0 (.take 1 (.take 2 (.take 3 (.take 4 (.alt 5 (.take 6 (.take 7 .done)) .no)))))) (by kernel_rfl) [0] ?_
      (conv => whnf)
      repeat' (first
       | exact trivial
       | exact rfl
       | exact ⟨⟨_, _, _, _, _, _, _, _, _, rfl, hj⟩, rfl⟩
       | (refine And.intro ?_ ?_ <;> (conv => whnf)))
end Go.Kx.Js
