/- Values as texts: the number of a whole number. No condition of its own. -/
import Derived.Test.YtbjiioclhgdeeaaGreatDoorMB10
import Derived.Shelf.Strconv.ParseIntPublic10
import Derived.Lib.ParseIntBTie
import Derived.Test.YtbjiioclhgdeeaaGreatDoorRows
import Derived.Lib.LaidTab
import Derived.Stop.LaidErr
import Derived.LaidSub
import Derived.MakeChecks
import Derived.Stop.ErrReads
namespace Go.Proofs
open Go.Shelf
def Tryz.laysParse_ren : Go.Shelf.Ren := ⟨fun | 174 => 284 | 247 => 201 | 245 => 142 | 287 => 273 | 279 => 202 | 280 => 203 | 281 => 204 | 282 => 205 | 321 => 320 | 322 => 321 | 316 => 274 | 171 => 84 | 205 => 275 | 243 => 139 | 246 => 200 | 283 => 269 | 284 => 270 | 285 => 271 | 286 => 272 | 129 => 316 | 317 => 315 | 318 => 317 | 319 => 318 | 320 => 319 | 337 => 349 | 338 => 350 | n => n, fun | 9 => 9 | 3 => 3 | 2 => 2 | 75 => 149 | 85 => 272 | 4 => 4 | 167 => 271 | 5 => 5 | 53 => 304 | 175 => 347 | 46 => 284 | 168 => 274 | 37 => 94 | 0 => 0 | 210 => 350 | 21 => 21 | 127 => 305 | 145 => 389 | 143 => 387 | 171 => 342 | 173 => 345 | 212 => 384 | 51 => 279 | 20 => 20 | 213 => 385 | 232 => 430 | 233 => 431 | 80 => 227 | n => n, fun | 15 => 0 | 16 => 1 | 17 => 2 | 18 => 6 | 19 => 7 | n => n⟩
theorem Tryz.laysParse : Go.Proofs.LaysC.n174 Tryz.prog Tryz.laysParse_ren where
 mixed := by kernel_rfl
 f129 := Tryz.func316.trans (congrArg some (by kernel_rfl))
 f171 := Tryz.func84.trans (congrArg some (by kernel_rfl))
 f174 := Tryz.func284.trans (congrArg some (by kernel_rfl))
 f205 := Tryz.func275.trans (congrArg some (by kernel_rfl))
 f243 := Tryz.func139.trans (congrArg some (by kernel_rfl))
 f245 := Tryz.func142.trans (congrArg some (by kernel_rfl))
 f246 := Tryz.func200.trans (congrArg some (by kernel_rfl))
 f247 := Tryz.func201.trans (congrArg some (by kernel_rfl))
 f279 := Tryz.func202.trans (congrArg some (by kernel_rfl))
 f280 := Tryz.func203.trans (congrArg some (by kernel_rfl))
 f281 := Tryz.func204.trans (congrArg some (by kernel_rfl))
 f282 := Tryz.func205.trans (congrArg some (by kernel_rfl))
 f283 := Tryz.func269.trans (congrArg some (by kernel_rfl))
 f284 := Tryz.func270.trans (congrArg some (by kernel_rfl))
 f285 := Tryz.func271.trans (congrArg some (by kernel_rfl))
 f286 := Tryz.func272.trans (congrArg some (by kernel_rfl))
 f287 := Tryz.func273.trans (congrArg some (by kernel_rfl))
 f316 := Tryz.func274.trans (congrArg some (by kernel_rfl))
 f317 := Tryz.func315.trans (congrArg some (by kernel_rfl))
 f318 := Tryz.func317.trans (congrArg some (by kernel_rfl))
 f319 := Tryz.func318.trans (congrArg some (by kernel_rfl))
 f320 := Tryz.func319.trans (congrArg some (by kernel_rfl))
 f321 := Tryz.func320.trans (congrArg some (by kernel_rfl))
 f322 := Tryz.func321.trans (congrArg some (by kernel_rfl))
 f337 := Tryz.func349.trans (congrArg some (by kernel_rfl))
 f338 := Tryz.func350.trans (congrArg some (by kernel_rfl))
 t0 := Tryz.underlying0
 a0 := Tryz.isAgg0
 z0 := Tryz.sizeOf0
 v0 := Tryz.zeroValue0
 t2 := Tryz.underlying2
 a2 := Tryz.isAgg2
 z2 := Tryz.sizeOf2
 v2 := Tryz.zeroValue2
 t3 := Tryz.underlying3
 a3 := Tryz.isAgg3
 z3 := Tryz.sizeOf3
 v3 := Tryz.zeroValue3
 t4 := Tryz.underlying4
 a4 := Tryz.isAgg4
 z4 := Tryz.sizeOf4
 v4 := Tryz.zeroValue4
 t5 := Tryz.underlying5
 a5 := Tryz.isAgg5
 z5 := Tryz.sizeOf5
 v5 := Tryz.zeroValue5
 t9 := Tryz.underlying9
 a9 := Tryz.isAgg9
 z9 := Tryz.sizeOf9
 v9 := Tryz.zeroValue9
 t20 := Tryz.underlying20
 a20 := Tryz.isAgg20
 z20 := Tryz.sizeOf20
 v20 := Tryz.zeroValue20
 t21 := Tryz.underlying21
 a21 := Tryz.isAgg21
 z21 := Tryz.sizeOf21
 v21 := Tryz.zeroValue21
 t37 := Tryz.underlying94
 a37 := Tryz.isAgg94
 z37 := Tryz.sizeOf94
 v37 := Tryz.zeroValue94
 t46 := Tryz.underlying284
 a46 := Tryz.isAgg284
 z46 := Tryz.sizeOf284
 v46 := Tryz.zeroValue284
 t51 := Tryz.underlying279
 a51 := Tryz.isAgg279
 z51 := Tryz.sizeOf279
 v51 := Tryz.zeroValue279
 t53 := Tryz.underlying304
 a53 := Tryz.isAgg304
 z53 := Tryz.sizeOf304
 v53 := Tryz.zeroValue304
 t75 := Tryz.underlying149
 a75 := Tryz.isAgg149
 z75 := Tryz.sizeOf149
 v75 := Tryz.zeroValue149
 t85 := Tryz.underlying272
 a85 := Tryz.isAgg272
 z85 := Tryz.sizeOf272
 v85 := Tryz.zeroValue272
 t127 := Tryz.underlying305
 a127 := Tryz.isAgg305
 z127 := Tryz.sizeOf305
 v127 := Tryz.zeroValue305
 t143 := Tryz.underlying387
 a143 := Tryz.isAgg387
 z143 := Tryz.sizeOf387
 v143 := Tryz.zeroValue387
 t145 := Tryz.underlying389
 a145 := Tryz.isAgg389
 z145 := Tryz.sizeOf389
 v145 := Tryz.zeroValue389
 t167 := Tryz.underlying271
 a167 := Tryz.isAgg271
 z167 := Tryz.sizeOf271
 v167 := Tryz.zeroValue271
 t168 := Tryz.underlying274
 a168 := Tryz.isAgg274
 z168 := Tryz.sizeOf274
 v168 := Tryz.zeroValue274
 t171 := Tryz.underlying342
 a171 := Tryz.isAgg342
 z171 := Tryz.sizeOf342
 v171 := Tryz.zeroValue342
 t173 := Tryz.underlying345
 a173 := Tryz.isAgg345
 z173 := Tryz.sizeOf345
 v173 := Tryz.zeroValue345
 t175 := Tryz.underlying347
 a175 := Tryz.isAgg347
 z175 := Tryz.sizeOf347
 v175 := Tryz.zeroValue347
 t210 := Tryz.underlying350
 a210 := Tryz.isAgg350
 z210 := Tryz.sizeOf350
 v210 := Tryz.zeroValue350
 t212 := Tryz.underlying384
 a212 := Tryz.isAgg384
 z212 := Tryz.sizeOf384
 v212 := Tryz.zeroValue384
 t213 := Tryz.underlying385
 a213 := Tryz.isAgg385
 z213 := Tryz.sizeOf385
 t232 := Tryz.underlying430
 a232 := Tryz.isAgg430
 z232 := Tryz.sizeOf430
 v232 := Tryz.zeroValue430
 t233 := Tryz.underlying431
 a233 := Tryz.isAgg431
 z233 := Tryz.sizeOf431
 v233 := Tryz.zeroValue431
 g15 := by kernel_rfl
 g16 := by kernel_rfl
 g17 := by kernel_rfl
 g18 := by kernel_rfl
 g19 := by kernel_rfl
 t80 := Tryz.underlying227
 a80 := Tryz.isAgg227
 z80 := Tryz.sizeOf227
 v80 := Tryz.zeroValue227
 i0 := by kernel_rfl
 i2 := by kernel_rfl
 i3 := by kernel_rfl
 i4 := by kernel_rfl
 i5 := by kernel_rfl
 i9 := by kernel_rfl
 i20 := by kernel_rfl
 i21 := by kernel_rfl
 i37 := by kernel_rfl
 i46 := by kernel_rfl
 i51 := by kernel_rfl
 i53 := by kernel_rfl
 i75 := by kernel_rfl
 i80 := by kernel_rfl
 i85 := by kernel_rfl
 i127 := by kernel_rfl
 i143 := by kernel_rfl
 i145 := by kernel_rfl
 i167 := by kernel_rfl
 i168 := by kernel_rfl
 i171 := by kernel_rfl
 i173 := by kernel_rfl
 i175 := by kernel_rfl
 i210 := by kernel_rfl
 i212 := by kernel_rfl
 i232 := by kernel_rfl
 i233 := by kernel_rfl
 m15 := by kernel_rfl
 m16 := by kernel_rfl
 m17 := by kernel_rfl
 m18 := by kernel_rfl
 m19 := by kernel_rfl
 c0 := by kernel_rfl
 c2 := by kernel_rfl
 c3 := by kernel_rfl
 c4 := by kernel_rfl
 c5 := by kernel_rfl
 c9 := by kernel_rfl
 c20 := by kernel_rfl
 c21 := by kernel_rfl
 c37 := by kernel_rfl
 c46 := by kernel_rfl
 c51 := by kernel_rfl
 c53 := by kernel_rfl
 c75 := by kernel_rfl
 c80 := by kernel_rfl
 c85 := by kernel_rfl
 c127 := by kernel_rfl
 c143 := by kernel_rfl
 c145 := by kernel_rfl
 c167 := by kernel_rfl
 c168 := by kernel_rfl
 c171 := by kernel_rfl
 c173 := by kernel_rfl
 c175 := by kernel_rfl
 c210 := by kernel_rfl
 c212 := by kernel_rfl
 c213 := by kernel_rfl
 c232 := by kernel_rfl
 c233 := by kernel_rfl

end Go.Proofs
namespace Go.Kx.Ob
open Go.Proofs Go.Kx Go.RowKit Go.Kx.Js Go.Kx.Pr Go.Kx.Rt
set_option maxRecDepth 20000
set_option linter.unusedSimpArgs false
def ErrH (H : Hp) : Prop := ∀ g, (g = 0 ∨ g = 1) → ∃ te pe, H g 0 = some (.iface te pe)
theorem ErrH.mono {H H' : Hp} (h : H.Le H') (he : ErrH H) : ErrH H' := fun g hg => let ⟨te, pe, e⟩ := he g hg; ⟨te, pe, h _ _ _ e⟩
theorem parseInt (s : ByteArray) (hs : s.size ≤ 1000000) (H : Hp) (hv : ErrH H) :
  CallO Tryz.prog 284 [pv (.string s), pv (.int .i64 10), pv (.int .i64 64)] H [] fun e H' G' => (∃ (v : Int) (x : Value), e = .ret (.tu [.ce (.val (.int .i64 v)), .ce (.val x)]) ∧ ((Lib.atoiAll s.data.toList = .ok v ∧ x = .nilIface) ∨ ((∀ u, Lib.atoiAll s.data.toList ≠ .ok u) ∧ ∃ te pe, x = .iface te pe))) ∧ H' = H ∧ G' = [] := by
 refine (CallO.of_calls (args := [.string s, .int .i64 10, .int .i64 64]) (R := fun y => ∃ (v : Int) (x : Value), y = .tuple #[.int .i64 v, x] ∧ ((Lib.atoiAll s.data.toList = .ok v ∧ x = .nilIface) ∨ ((∀ u, Lib.atoiAll s.data.toList ≠ .ok u) ∧ ∃ te pe, x = .iface te pe))) fun w hg hin => ?_).mono ?_
 ·have ht := Lib.parseIntB_64 s.data.toList
  cases h : Lib.atoiAll s.data.toList
  ·rename_i v
   refine (Any.strconv_ParseInt_10_at64_ok Tryz.laysParse s (by omega) v (ht.trans h) w).mono fun e w' ⟨he, hw⟩ => ⟨_, he, ⟨v, _, rfl, .inl ⟨rfl, rfl⟩⟩, ?_⟩
   rcases hw with rfl | ⟨t, rfl⟩
   ·exact grown_refl _
   ·exact ⟨rfl, rfl, rfl, by rw [Lib.bytesWorld_size]; omega, fun j hj _ => Lib.bytesWorld_at_old w _ t j hj⟩
  ·obtain ⟨te, pe, he⟩ := hv 0 (.inl rfl)
   refine (Any.strconv_ParseInt_10_at64_syntax Tryz.laysParse s (by omega) (ht.trans h) _ w (hin _ _ _ he) (.inr ⟨te, pe, rfl⟩)).mono fun e w' ⟨N, he, _, _, hb⟩ => ⟨_, he, ⟨_, _, rfl, .inr ⟨fun u e => (nomatch e), _, _, rfl⟩⟩, grown_of_below hb⟩
  ·obtain ⟨te, pe, he⟩ := hv 1 (.inr rfl)
   refine (Any.strconv_ParseInt_10_at64_range Tryz.laysParse s (by omega) (ht.trans h) _ w (hin _ _ _ he) (.inr ⟨te, pe, rfl⟩)).mono fun e w' ⟨N, he, _, _, hb⟩ => ⟨_, he, ⟨_, _, rfl, .inr ⟨fun u e => (nomatch e), _, _, rfl⟩⟩, grown_of_below hb⟩
 ·rintro e H' G' hle ⟨y, ⟨v, x, rfl, h⟩, rfl, rfl, rfl⟩
  exact ⟨⟨v, x, rfl, h⟩, rfl, rfl⟩
def intP (j : J) : Int × Bool :=
 if j.kind = 3 ∧ numericP j.text = true then
  match Lib.atoiAll j.text.data.toList with
  | .ok v => if v < -9007199254740992 ∨ v > 9007199254740992 then (0, false) else (v, true)
  | _ => (0, false)
 else (0, false)
theorem int_ (j : J) (hs : j.text.size ≤ 190000) (k : Int) (y : Bool) (t : ByteArray) (A : Option Addr) (n c : Nat) (B : Option Addr) (m d : Nat) (H : Hp) (hE : ErrH H) (hj : JAt H j [.int .i64 k, .bool y, .string t, .slice A n c, .slice B m d]) :
  CallO Tryz.prog 214 [agJ k y t A n c B m d] H [] fun e H' G' => e = .ret (.tu [.ce (.val (.int .i64 (intP j).1)), .ce (.val (.bool (intP j).2))]) ∧ H.Le H' ∧ G' = [] := by
 obtain ⟨rfl, rfl, rfl⟩ : k = j.kind ∧ y = j.yes ∧ t = j.text := by cases hj; exact ⟨rfl, rfl, rfl⟩
 unfold intP
 refine CallO.of_body tab Tryz.func214 rfl (nt := Tryz.f214.ntmps) rfl (by kernel_rfl) ?_
 (conv => whnf)
 refine br.of (fun h1 => ?_) (fun h1 => ?_) <;> (conv => whnf)
 ·simp only [bne_iff_ne, ne_eq] at h1
  rw [if_neg (fun h => h1 h.1)]
  exact ⟨rfl, .refl _, rfl⟩
 simp only [bne_eq_false_iff_eq] at h1
 refine ⟨⟨_, Tryz.func232, rfl, by kernel_rfl⟩, CallS.use (numeric_ j.text hs H) [] rfl rfl trivial ?_⟩
 rintro e H2 G' hle ⟨rfl, rfl⟩
 cases hn : numericP j.text
 all_goals (conv => whnf)
 ·rw [if_neg (by simp)]
  exact ⟨rfl, hle, rfl⟩
 rw [if_pos ⟨h1, rfl⟩]
 refine ⟨⟨_, Tryz.func284, rfl, by kernel_rfl⟩, CallS.use (parseInt j.text (by omega) H2 (hE.mono hle)) [] rfl rfl trivial ?_⟩
 rintro e H3 G' hle2 ⟨⟨v, x, rfl, hx⟩, rfl, rfl⟩
 rcases hx with ⟨hv, rfl⟩ | ⟨hv, te, pe, rfl⟩
 all_goals (conv => whnf)
 ·rw [hv]
  refine br.of (fun h2 => ?_) (fun h2 => ?_) <;> (conv => whnf)
  ·have h2 := of_decide_eq_true h2
   simp only [if_pos (show v < -9007199254740992 ∨ v > 9007199254740992 by omega)]
   exact ⟨trivial, hle, rfl⟩
  have h2 := of_decide_eq_false h2
  refine br.of (fun h3 => ?_) (fun h3 => ?_) <;> (conv => whnf)
  ·have h3 := of_decide_eq_true h3
   simp only [if_pos (show v < -9007199254740992 ∨ v > 9007199254740992 by omega)]
   exact ⟨trivial, hle, rfl⟩
  have h3 := of_decide_eq_false h3
  simp only [if_neg (show ¬ (v < -9007199254740992 ∨ v > 9007199254740992) by omega)]
  exact ⟨trivial, hle, rfl⟩
 ·cases hh : Lib.atoiAll j.text.data.toList with
  | ok u => exact absurd hh (hv u)
  | _ => exact ⟨rfl, hle, rfl⟩
end Go.Kx.Ob
namespace Go.Proofs.YtbjiioclhgdeeaaGreatDoor.RowLaid
open Go.ChangeShapes Go.WideShapes Go.ChangeAt Go.RowKit Go.Kx Go.Proofs

def laid : List (String × DataW Unit) := [("math/bits.deBruijn32tab", Rows.laid_math_bits_deBruijn32tab), ("math/bits.deBruijn64tab", Rows.laid_math_bits_deBruijn64tab), ("internal/strconv.uint64pow10", Rows.laid_internal_strconv_uint64pow10), ("unicode/utf8.acceptRanges", Rows.laid_unicode_utf8_acceptRanges), ("strconv.ErrRange", Rows.laid_strconv_ErrRange), ("strconv.ErrSyntax", Rows.laid_strconv_ErrSyntax), ("unicode/utf8.first", Rows.laid_unicode_utf8_first)]
theorem own : ownKnob Tryz.prog.godebug = none := by kernel_rfl
theorem laidOut : laidOutB Tryz.prog = true := by kernel_rfl
theorem star : "*" ++ "errors.errorString" = "*errors.errorString" := by decide
theorem rowE (u : TypeId) (h : Tryz.prog.typeName? 3 u = some "*errors.errorString") : u = 387 :=
 typeName_ptr_named (nm := "errors.errorString") (by rw [star]; kernel_rfl) (by kernel_rfl) (by decide) u (by rw [star]; exact h)
theorem gP : Tryz.prog.globalNamed "internal/strconv.uint64pow10" = some 2 := by kernel_rfl
theorem gS : Tryz.prog.globalNamed "strconv.ErrSyntax" = some 0 := by kernel_rfl
theorem gR : Tryz.prog.globalNamed "strconv.ErrRange" = some 1 := by kernel_rfl
theorem one {W : World} (h : laidMetH Tryz.prog laid W) (nm : String) (d : DataW Unit) (e : laid.filter (fun x => x.1 == nm) = [(nm, d)]) (hp : d.handleName?.isNone = true) : laidMet Tryz.prog [(nm, d)] W := by
 have h1 := h.filter fun x => x.1 == nm
 rw [e, Go.MakeChecks.laidMetH_plain _ _ _ (by simp [hp])] at h1
 exact h1
theorem gd {W : World} (h : laidMetH Tryz.prog laid W) : Gd W fun _ => False := by
 have h1 := one h "internal/strconv.uint64pow10" Rows.laid_internal_strconv_uint64pow10 (by kernel_rfl) (by kernel_rfl)
 have h2 : laidMet Tryz.prog [("internal/strconv.uint64pow10", Lib.tabData .u64 Lib.pow10Tab)] W := by
  rw [show (Lib.tabData .u64 Lib.pow10Tab : DataW Unit) = Rows.laid_internal_strconv_uint64pow10 by kernel_rfl]
  exact h1
 have h3 : W.var? Tryz.prog "internal/strconv.uint64pow10" = some (Lib.pow10Tab.map fun z => Value.int .u64 z).toArray := Lib.tabIs_of_head gP (by kernel_rfl) Tryz.underlying384 Tryz.underlying304 (by kernel_rfl) (by kernel_rfl) h2
 unfold World.var? at h3
 rw [gP] at h3
 simp only [Option.bind_some] at h3
 intro g cs hg
 refine ⟨?_, fun hf => hf⟩
 unfold Gl at hg
 split at hg
 ·rename_i hb
  subst hb
  injection hg with hg
  subst hg
  split at h3
  ·rename_i cs t z hh
   injection h3 with h3
   subst h3
   exact ⟨t, z, by rw [hh]; rfl⟩
  ·cases h3
 ·cases hg
theorem errH {W : World} (h : laidMetH Tryz.prog laid W) : Go.Kx.Ob.ErrH (heapOf W) := by
 rintro g (rfl | rfl)
 ·have h1 := one h "strconv.ErrSyntax" Rows.laid_strconv_ErrSyntax (by kernel_rfl) (by kernel_rfl)
  obtain ⟨a1, s1, hv1, hc1, hs1, hz1⟩ := laid_sentinel h1 gS (by kernel_rfl) (ti := 149) Tryz.underlying149 rowE Tryz.underlying387 Tryz.underlying389 rfl rfl Tryz.underlying9 (by kernel_rfl) (by kernel_rfl)
  exact ⟨_, _, by simpa [heapOf] using World.var?_cell gS hv1 0⟩
 ·have h1 := one h "strconv.ErrRange" Rows.laid_strconv_ErrRange (by kernel_rfl) (by kernel_rfl)
  obtain ⟨a1, s1, hv1, hc1, hs1, hz1⟩ := laid_sentinel h1 gR (by kernel_rfl) (ti := 149) Tryz.underlying149 rowE Tryz.underlying387 Tryz.underlying389 rfl rfl Tryz.underlying9 (by kernel_rfl) (by kernel_rfl)
  exact ⟨_, _, by simpa [heapOf] using World.var?_cell gR hv1 0⟩
noncomputable def low (os : Os) : Nat := (World.holding Tryz.prog os ⟨#[], #[], []⟩).heap.size
def rangeS : ByteArray := ⟨#[118, 97, 108, 117, 101, 32, 111, 117, 116, 32, 111, 102, 32, 114, 97, 110, 103, 101]⟩
def syntaxS : ByteArray := ⟨#[105, 110, 118, 97, 108, 105, 100, 32, 115, 121, 110, 116, 97, 120]⟩
def litsOf : DataW Unit → Array Value
 | .agg l => (l.flatMap fun
  | .lit (.int k v) => [Value.int k v]
  | .agg m => m.filterMap fun
   | .lit (.int k v) => some (Value.int k v)
   | _ => none
  | _ => []).toArray
 | _ => #[]
noncomputable def laidWorld (os : Os) : World :=
 let w0 := World.holding Tryz.prog os ⟨#[.cells #[.string rangeS] 389, .cells #[.string syntaxS] 389], #[], []⟩
 { w0 with heap := ((((((w0.heap.modify 6 fun
   | .cells _ t z => .cells (litsOf Rows.laid_math_bits_deBruijn32tab) t z
   | o => o).modify 7 fun
   | .cells _ t z => .cells (litsOf Rows.laid_math_bits_deBruijn64tab) t z
   | o => o).modify 2 fun
   | .cells _ t z => .cells (litsOf Rows.laid_internal_strconv_uint64pow10) t z
   | o => o).modify 5 fun
   | .cells _ t z => .cells (litsOf Rows.laid_unicode_utf8_acceptRanges) t z
   | o => o).modify 4 fun
   | .cells _ t z => .cells (litsOf Rows.laid_unicode_utf8_first) t z
   | o => o).modify 1 fun
   | .cells _ t z => .cells #[.iface 387 (.pointer (some ⟨low os, 0, Option.none⟩))] t z
   | o => o).modify 0 fun
   | .cells _ t z => .cells #[.iface 387 (.pointer (some ⟨low os + 1, 0, Option.none⟩))] t z
   | o => o }
theorem laidWorld_met (os : Os) (args : Array Value) : laidMetH Tryz.prog laid ((laidWorld os).forCall (fun _ _ => 0) ⟨#[], args, []⟩).memory := by
 rw [Go.MakeChecks.laidMetH_plain _ _ _ (by kernel_rfl)]
 exact laidMet_of_run' 8 (by kernel_rfl) (by kernel_rfl)
end Go.Proofs.YtbjiioclhgdeeaaGreatDoor.RowLaid
