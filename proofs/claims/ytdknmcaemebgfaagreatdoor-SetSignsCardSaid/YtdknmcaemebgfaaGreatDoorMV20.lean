/- SetSigns: any call with arguments that read as data, the listed variables as listed, returns true and leaves all as it was; the row, and its tied card. No condition of its own. -/
import Derived.Test.YtdknmcaemebgfaaGreatDoorMV19
import Derived.Test.YtdknmcaemebgfaaGreatDoorCards
import Derived.Test.YtdknmcaemebgfaaGreatDoorTie
import Derived.JoinedOf
import Derived.SevenTiedAt
namespace Go.Proofs.YtdknmcaemebgfaaGreatDoor.RowSetSigns
open Go.Deep Go.ChangeMaps Go.ChangeShapes Go.WideShapes Go.ChangeAt Go.RowKit Go.Kx Go.Proofs RowLaid

theorem open8 {H : Type} {enc : TypeId × Value → H} {w : World} {base : Nat} {spare : Nat → Bool} {held : Bool} {n : Nat} {cs : List Value} {x : DataW H × List MemPlace} (h : DataW.trod enc Tryz.prog w base spare held n 5 cs = some x) : ∃ y : UInt8, cs = [Value.int .u8 y.toNat] := by
 obtain ⟨a, e, _, wa⟩ := DataW.trod_int Tryz.underlying5 h
 subst e
 have h1 : IntKind.u8.min ≤ a ∧ a ≤ IntKind.u8.max := by simpa [Lit.wf] using wa
 rw [show IntKind.u8.min = 0 by decide, show IntKind.u8.max = 255 by decide] at h1
 refine ⟨UInt8.ofNat a.toNat, ?_⟩
 rw [UInt8.toNat_ofNat']
 congr 2
 omega
theorem flat8 (os : List UInt8) : os.flatMap (fun b : UInt8 => [Value.int .u8 b.toNat]) = bCells os := by
 unfold bCells
 induction os with
 | nil => rfl
 | cons b r ih => rw [List.flatMap_cons, ih]; rfl
theorem bytesZ {W : World} {A : Option Addr} {os : List UInt8} (hrd : os = [] ∨ RdN (heapOf W) A 0 (os.flatMap fun b : UInt8 => [Value.int .u8 b.toNat])) : BytesZ (heapOf W) A os.length os := by
 rw [flat8 os] at hrd
 refine ⟨rfl, fun e => ?_, fun a e => ?_⟩
 ·rcases hrd with h | ⟨b, o, h, _⟩
  ·exact h
  ·rw [e] at h; cases h
 ·rcases hrd with h | h
  ·exact .inl (by rw [h]; rfl)
  ·rw [e] at h; exact .inr h
set_option maxRecDepth 100000 in
theorem walk : LawWalkL Tryz.prog 6 Tryz.f6 laid := by
 intro H enc W args base ds p hA hval hsz hL
 rw [Tryz.params6] at hA hval
 obtain ⟨v0, vs0, d0, ds0, p0, q0, hargs, rfl, rfl, h0, r0⟩ := trodAll_cons hA
 obtain ⟨v1, vs1, d1, ds1, p1, q1, rfl, rfl, rfl, h1, r1⟩ := trodAll_cons r0
 obtain ⟨v2, vs2, d2, ds2, p2, q2, rfl, rfl, rfl, h2, r2⟩ := trodAll_cons r1
 obtain ⟨rfl, rfl, rfl⟩ := trodAll_nil r2
 obtain rfl : args = #[v0, v1, v2] := by cases args; simp_all
 obtain ⟨c, rfl, hfc⟩ := open_cl (hval 0 25 v0 rfl rfl) h0
 obtain ⟨kid, rfl, rfl, _, wk⟩ := open_string Tryz.underlying9 (hval 1 9 v1 rfl rfl) h1
 obtain ⟨A0, len, cap, rfl⟩ := okWide_slice Tryz.underlying55 (hval 2 55 v2 rfl rfl)
 obtain ⟨fs, hs⟩ := h2
 obtain ⟨A, cap', os, hcs, hrd⟩ := rd_slice (fun b : UInt8 => [Value.int .u8 b.toNat]) (sz := 1) (fun _ => rfl) (by decide) Tryz.underlying55 (by kernel_rfl) (fun n cs x h => open8 h) hs
 injection hcs with hcs _
 injection hcs with e1 e2 e3
 subst e1 e2 e3
 exact law_of (gd hL) (L13.setSigns c hfc.n hfc.k kid os A0 cap (heapOf W) (errH hL) (bytesZ hrd)) (.cons (is_cl c) (.cons rfl (.cons rfl .nil))) (fun e _ _ h => h)
theorem spec (H : Type) (ds : List (DataW H)) (hl : ds.length = 3) : Rows.setSignsSpec.fn H ds = { results := [.lit (.bool true)], args := ds } := by
 match ds, hl with
 | [_, _, _], _ => rfl
set_option maxRecDepth 100000 in
theorem lifted (os : Os) (started : os.Started) (H : Type) (enc : TypeId × Value → H) :
  ReturnsInHanded {} Tryz.checked os 6 .any (fun w args => (Rows.setSignsSpec.pre enc Tryz.prog Tryz.f6 Rows.setSignsRow.domain false w args ∧ laidMetH Tryz.prog laid w) ∧ sizedMet enc Tryz.prog Tryz.f6 (OpenSpec.ofChange Rows.setSignsSpec) false w args) (Rows.setSignsSpec.post enc Tryz.prog Tryz.f6 false true false false) :=
 law_lifted_laid (C := Tryz.checked) (s := Rows.setSignsSpec) (conds := Rows.setSignsRow.domain) (tb := 4) own laidOut (by kernel_rfl) Tryz.func6 rfl (by kernel_rfl) Tryz.underlying4 (by kernel_rfl) spec walk os started H enc
  (ChangeSpec.witness_at (enc := enc) (C := Tryz.checked) (os := os) (X := fun w _ => laidMetH Tryz.prog laid w) false (laidWorld os) #[.agg #[.string ⟨#[]⟩, .string ⟨#[]⟩, .string ⟨#[]⟩, .int .i64 0, .string ⟨#[]⟩, .string ⟨#[]⟩, .string ⟨#[]⟩, .string ⟨#[]⟩, .int .i64 0, .string ⟨#[]⟩], .string ⟨#[]⟩, .slice Option.none 0 0] 8 rfl (by kernel_rfl) (by kernel_rfl) (by kernel_rfl) (by kernel_rfl) (by kernel_rfl) (laidWorld_met os _))
theorem over : Rows.setSignsRow.holds Tryz.pinned (OpenSpec.ofChange Rows.setSignsSpec) :=
 OpenClaim.holds_of_wide 6 Tryz.f6 rfl rfl rfl rfl rfl rfl rfl ⟨rfl, rfl, rfl, rfl, rfl⟩ rfl rfl rfl rfl rfl (by kernel_rfl) Tryz.func6 (by kernel_rfl)
  (of_decide_eq_true (by kernel_rfl)) (by unfold Func.isWrapper; first | (rw [if_pos (by decide +kernel)]; kernel_rfl) | (rw [if_neg (by decide +kernel)]; exact ⟨rfl, rfl⟩))
  (fun os started H enc _ => lifted os started H enc)
end Go.Proofs.YtdknmcaemebgfaaGreatDoor.RowSetSigns
namespace Go.Proofs.YtdknmcaemebgfaaGreatDoor
theorem setSigns_card : Rows.SetSignsCardSaid :=
 Claim7.holds_tied_plain_at .later [] [.data, .data, .data, .data, .sentinel, .sentinel, .pinned] true (true, "edcc968d0c138d5e9ab7697d3977bc0490529bebd8073c354ce3bca9625a6416") true
  RowSetSigns.over (fun _ h => by cases h) (by kernel_rfl) (fun _ h => by cases h) setSigns_row_tie rfl ⟨rfl, rfl⟩ (by kernel_rfl) rfl
  (fun f fn hf hfn => by
   obtain rfl : f = 6 := Option.some.inj ((show Tryz.prog.funcNamed "klaxon/klaxonlaw13.SetSigns" = some 6 by kernel_rfl).symm.trans hf) |>.symm
   obtain rfl : fn = Tryz.f6 := (Option.some.inj (Tryz.func6.symm.trans hfn)).symm
   exact ⟨by kernel_rfl, fun j t ht => by
    rw [Tryz.params6] at ht
    have h3 : t = 25 ∨ t = 9 ∨ t = 55 := by
     rcases j with _ | _ | _ | j
     ·left; simpa using ht.symm
     ·right; left; simpa using ht.symm
     ·right; right; simpa using ht.symm
     ·simp at ht
    rcases h3 with rfl | rfl | rfl
    ·exact (show Tryz.prog.wantsStandIn 25 = false by kernel_rfl)
    ·exact (show Tryz.prog.wantsStandIn 9 = false by kernel_rfl)
    ·exact (show Tryz.prog.wantsStandIn 55 = false by kernel_rfl)⟩)
  (by kernel_rfl)
#print axioms setSigns_card
end Go.Proofs.YtdknmcaemebgfaaGreatDoor
