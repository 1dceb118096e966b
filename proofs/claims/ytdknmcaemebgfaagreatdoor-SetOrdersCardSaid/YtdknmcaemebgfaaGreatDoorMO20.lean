/- SetOrders: any call with arguments that read as data, the listed variables as listed, returns true and leaves all as it was; the row, and its tied card. No condition of its own. -/
import Derived.Test.YtdknmcaemebgfaaGreatDoorMO19
import Derived.Test.YtdknmcaemebgfaaGreatDoorCards
import Derived.Test.YtdknmcaemebgfaaGreatDoorTie
import Derived.JoinedOf
import Derived.SevenTiedAt
namespace Go.Proofs.YtdknmcaemebgfaaGreatDoor.RowSetOrders
open Go.Deep Go.ChangeMaps Go.ChangeShapes Go.WideShapes Go.ChangeAt Go.RowKit Go.Kx Go.Proofs RowLaid

set_option maxRecDepth 100000 in
theorem walk : LawWalkL Tryz.prog 5 Tryz.f5 laid := by
 intro H enc W args base ds p hA hval hsz hL
 rw [Tryz.params5] at hA hval
 obtain ⟨v0, vs0, d0, ds0, p0, q0, hargs, rfl, rfl, h0, r0⟩ := trodAll_cons hA
 obtain ⟨v1, vs1, d1, ds1, p1, q1, rfl, rfl, rfl, h1, r1⟩ := trodAll_cons r0
 obtain ⟨v2, vs2, d2, ds2, p2, q2, rfl, rfl, rfl, h2, r2⟩ := trodAll_cons r1
 obtain ⟨v3, vs3, d3, ds3, p3, q3, rfl, rfl, rfl, h3, r3⟩ := trodAll_cons r2
 obtain ⟨rfl, rfl, rfl⟩ := trodAll_nil r3
 obtain rfl : args = #[v0, v1, v2, v3] := by cases args; simp_all
 obtain ⟨c, rfl, hfc⟩ := open_cl (hval 0 25 v0 rfl rfl) h0
 obtain ⟨a, rfl, rfl, _, _⟩ := open_int Tryz.underlying3 (hval 1 3 v1 rfl rfl) h1
 obtain ⟨b, rfl, rfl, _, _⟩ := open_int Tryz.underlying3 (hval 2 3 v2 rfl rfl) h2
 obtain ⟨d, rfl, rfl, _, _⟩ := open_int Tryz.underlying3 (hval 3 3 v3 rfl rfl) h3
 exact law_of (gd hL) (L13.setOrders c hfc.n hfc.k a b d (heapOf W) (errH hL)) (.cons (is_cl c) (.cons rfl (.cons rfl (.cons rfl .nil)))) (fun e _ _ h => h)
theorem spec (H : Type) (ds : List (DataW H)) (hl : ds.length = 4) : Rows.setOrdersSpec.fn H ds = { results := [.lit (.bool true)], args := ds } := by
 match ds, hl with
 | [_, _, _, _], _ => rfl
set_option maxRecDepth 100000 in
theorem lifted (os : Os) (started : os.Started) (H : Type) (enc : TypeId × Value → H) :
  ReturnsInHanded {} Tryz.checked os 5 .any (fun w args => (Rows.setOrdersSpec.pre enc Tryz.prog Tryz.f5 Rows.setOrdersRow.domain false w args ∧ laidMetH Tryz.prog laid w) ∧ sizedMet enc Tryz.prog Tryz.f5 (OpenSpec.ofChange Rows.setOrdersSpec) false w args) (Rows.setOrdersSpec.post enc Tryz.prog Tryz.f5 false true false false) :=
 law_lifted_laid (C := Tryz.checked) (s := Rows.setOrdersSpec) (conds := Rows.setOrdersRow.domain) (tb := 4) own laidOut (by kernel_rfl) Tryz.func5 rfl (by kernel_rfl) Tryz.underlying4 (by kernel_rfl) spec walk os started H enc
  (ChangeSpec.witness_at (enc := enc) (C := Tryz.checked) (os := os) (X := fun w _ => laidMetH Tryz.prog laid w) false (laidWorld os) #[.agg #[.string ⟨#[]⟩, .string ⟨#[]⟩, .string ⟨#[]⟩, .int .i64 0, .string ⟨#[]⟩, .string ⟨#[]⟩, .string ⟨#[]⟩, .string ⟨#[]⟩, .int .i64 0, .string ⟨#[]⟩], .int .i64 0, .int .i64 0, .int .i64 0] 8 rfl (by kernel_rfl) (by kernel_rfl) (by kernel_rfl) (by kernel_rfl) (by kernel_rfl) (laidWorld_met os _))
theorem over : Rows.setOrdersRow.holds Tryz.pinned (OpenSpec.ofChange Rows.setOrdersSpec) :=
 OpenClaim.holds_of_wide 5 Tryz.f5 rfl rfl rfl rfl rfl rfl rfl ⟨rfl, rfl, rfl, rfl, rfl⟩ rfl rfl rfl rfl rfl (by kernel_rfl) Tryz.func5 (by kernel_rfl)
  (of_decide_eq_true (by kernel_rfl)) (by unfold Func.isWrapper; first | (rw [if_pos (by decide +kernel)]; kernel_rfl) | (rw [if_neg (by decide +kernel)]; exact ⟨rfl, rfl⟩))
  (fun os started H enc _ => lifted os started H enc)
end Go.Proofs.YtdknmcaemebgfaaGreatDoor.RowSetOrders
namespace Go.Proofs.YtdknmcaemebgfaaGreatDoor
theorem setOrders_card : Rows.SetOrdersCardSaid :=
 Claim7.holds_tied_plain_at .later [] [.data, .data, .data, .data, .sentinel, .sentinel, .pinned] true (true, "edcc968d0c138d5e9ab7697d3977bc0490529bebd8073c354ce3bca9625a6416") true
  RowSetOrders.over (fun _ h => by cases h) (by kernel_rfl) (fun _ h => by cases h) setOrders_row_tie rfl ⟨rfl, rfl⟩ (by kernel_rfl) rfl
  (fun f fn hf hfn => by
   obtain rfl : f = 5 := Option.some.inj ((show Tryz.prog.funcNamed "klaxon/klaxonlaw13.SetOrders" = some 5 by kernel_rfl).symm.trans hf) |>.symm
   obtain rfl : fn = Tryz.f5 := (Option.some.inj (Tryz.func5.symm.trans hfn)).symm
   exact ⟨by kernel_rfl, fun j t ht => by
    rw [Tryz.params5] at ht
    have h3 : t = 25 ∨ t = 3 := by
     rcases j with _ | _ | _ | _ | j
     ·left; simpa using ht.symm
     ·right; simpa using ht.symm
     ·right; simpa using ht.symm
     ·right; simpa using ht.symm
     ·simp at ht
    rcases h3 with rfl | rfl
    ·exact (show Tryz.prog.wantsStandIn 25 = false by kernel_rfl)
    ·exact (show Tryz.prog.wantsStandIn 3 = false by kernel_rfl)⟩)
  (by kernel_rfl)
#print axioms setOrders_card
end Go.Proofs.YtdknmcaemebgfaaGreatDoor
