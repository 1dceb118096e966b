/- SetReads: any call with arguments that read as data, the listed variables as listed, returns true and leaves all as it was; the row, and its tied card. No condition of its own. -/
import Derived.Test.YtdknmcaemebgfaaGreatDoorMX17
import Derived.Test.YtdknmcaemebgfaaGreatDoorCards
import Derived.Test.YtdknmcaemebgfaaGreatDoorTie
import Derived.JoinedOf
import Derived.SevenTiedAt
namespace Go.Proofs.YtdknmcaemebgfaaGreatDoor.RowSetReads
open Go.Deep Go.ChangeMaps Go.ChangeShapes Go.WideShapes Go.ChangeAt Go.RowKit Go.Kx Go.Proofs RowLaid

theorem e5n : Tryz.prog.cellsOf 87 = 5 := by kernel_rfl
theorem e4b : Tryz.prog.cellsOf 4 = 1 := by kernel_rfl
theorem cell_b {H : Type} {enc : TypeId × Value → H} {w : World} {base : Nat} {spare : Nat → Bool} {held : Bool} {n : Nat} {cs : List Value} {o : Option (DataW H × List MemPlace)} {c : Value} (h : DataW.trod enc Tryz.prog w base spare held n 4 cs = o) (ho : o ≠ none) (hc : cs = [c]) : ∃ b : Bool, c = .bool b := by
 cases o with
 | none => exact absurd rfl ho
 | some x =>
  obtain ⟨s, e, _⟩ := DataW.trod_bool Tryz.underlying4 h
  rw [hc] at e
  injection e with e
  exact ⟨s, e⟩
theorem takeL {l : List Value} (k : Nat) {c : Value} (h : l[k]? = some c) : List.take (Tryz.prog.cellsOf 4) (List.drop k l) = [c] := by
 rw [e4b, List.drop_eq_getElem?_toList_append, h]; rfl
theorem list5 {α : Type} {l : List α} (h : l.length = 5) : ∃ a b c d e, l = [a, b, c, d, e] := by
 match l, h with
 | [a, b, c, d, e], _ => exact ⟨a, b, c, d, e, rfl⟩
theorem openNd {H : Type} {enc : TypeId × Value → H} {w : World} {base : Nat} {spare : Nat → Bool} {held : Bool} {n : Nat} {cs : List Value} {x : DataW H × List MemPlace} (h : DataW.trod enc Tryz.prog w base spare held n 87 cs = some x) : ∃ y, cs = Tr.ndC y := by
 obtain ⟨xs, m, _, _, hlen, hl, hf⟩ := DataW.trod_struct Tryz.underlying87 h
 rw [e5n] at hlen
 obtain ⟨a, b, c, d, e, rfl⟩ := list5 hlen
 obtain ⟨n1, rfl, _⟩ := cell_i (hf 0 _ rfl) (some_of hl (by decide)) (takeI 0 rfl)
 obtain ⟨n2, rfl, _⟩ := cell_i (hf 1 _ rfl) (some_of hl (by decide)) (takeI 1 rfl)
 obtain ⟨b3, rfl⟩ := cell_b (hf 2 _ rfl) (some_of hl (by decide)) (takeL 2 rfl)
 obtain ⟨s4, rfl, _⟩ := cell_s (hf 3 _ rfl) (some_of hl (by decide)) (takeS 3 rfl)
 obtain ⟨s5, rfl, _⟩ := cell_s (hf 4 _ rfl) (some_of hl (by decide)) (takeS 4 rfl)
 exact ⟨⟨n1, n2, b3, s4, s5⟩, rfl⟩
set_option maxRecDepth 100000 in
theorem walk : LawWalkL Tryz.prog 4 Tryz.f4 laid := by
 intro H enc W args base ds p hA hval hsz hL
 rw [Tryz.params4] at hA hval
 obtain ⟨v0, vs0, d0, ds0, p0, q0, hargs, rfl, rfl, h0, r0⟩ := trodAll_cons hA
 obtain ⟨rfl, rfl, rfl⟩ := trodAll_nil r0
 obtain rfl : args = #[v0] := by cases args; simp_all
 obtain ⟨A0, len, cap, rfl⟩ := okWide_slice Tryz.underlying45 (hval 0 45 v0 rfl rfl)
 obtain ⟨fs, hs⟩ := h0
 obtain ⟨A, cap', os, hcs, hrd⟩ := rd_slice Tr.ndC (sz := 5) (fun _ => rfl) (by decide) Tryz.underlying45 (by kernel_rfl) (fun n cs x h => openNd h) hs
 injection hcs with hcs _
 injection hcs with e1 e2 e3
 subst e1 e2 e3
 exact law_of (gd hL) (L13.setReads os A0 cap (heapOf W) (errH hL) hrd) (.cons rfl .nil) (fun e _ _ h => h)
theorem spec (H : Type) (ds : List (DataW H)) (hl : ds.length = 1) : Rows.setReadsSpec.fn H ds = { results := [.lit (.bool true)], args := ds } := by
 match ds, hl with
 | [_], _ => rfl
set_option maxRecDepth 100000 in
theorem lifted (os : Os) (started : os.Started) (H : Type) (enc : TypeId × Value → H) :
  ReturnsInHanded {} Tryz.checked os 4 .any (fun w args => (Rows.setReadsSpec.pre enc Tryz.prog Tryz.f4 Rows.setReadsRow.domain false w args ∧ laidMetH Tryz.prog laid w) ∧ sizedMet enc Tryz.prog Tryz.f4 (OpenSpec.ofChange Rows.setReadsSpec) false w args) (Rows.setReadsSpec.post enc Tryz.prog Tryz.f4 false true false false) :=
 law_lifted_laid (C := Tryz.checked) (s := Rows.setReadsSpec) (conds := Rows.setReadsRow.domain) (tb := 4) own laidOut (by kernel_rfl) Tryz.func4 rfl (by kernel_rfl) Tryz.underlying4 (by kernel_rfl) spec walk os started H enc
  (ChangeSpec.witness_at (enc := enc) (C := Tryz.checked) (os := os) (X := fun w _ => laidMetH Tryz.prog laid w) false (laidWorld os) #[.slice Option.none 0 0] 8 rfl (by kernel_rfl) (by kernel_rfl) (by kernel_rfl) (by kernel_rfl) (by kernel_rfl) (laidWorld_met os _))
theorem over : Rows.setReadsRow.holds Tryz.pinned (OpenSpec.ofChange Rows.setReadsSpec) :=
 OpenClaim.holds_of_wide 4 Tryz.f4 rfl rfl rfl rfl rfl rfl rfl ⟨rfl, rfl, rfl, rfl, rfl⟩ rfl rfl rfl rfl rfl (by kernel_rfl) Tryz.func4 (by kernel_rfl)
  (of_decide_eq_true (by kernel_rfl)) (by unfold Func.isWrapper; first | (rw [if_pos (by decide +kernel)]; kernel_rfl) | (rw [if_neg (by decide +kernel)]; exact ⟨rfl, rfl⟩))
  (fun os started H enc _ => lifted os started H enc)
end Go.Proofs.YtdknmcaemebgfaaGreatDoor.RowSetReads
namespace Go.Proofs.YtdknmcaemebgfaaGreatDoor
theorem setReads_card : Rows.SetReadsCardSaid :=
 Claim7.holds_tied_plain_at .later [] [.data, .data, .data, .data, .sentinel, .sentinel, .pinned] true (true, "edcc968d0c138d5e9ab7697d3977bc0490529bebd8073c354ce3bca9625a6416") true
  RowSetReads.over (fun _ h => by cases h) (by kernel_rfl) (fun _ h => by cases h) setReads_row_tie rfl ⟨rfl, rfl⟩ (by kernel_rfl) rfl
  (fun f fn hf hfn => by
   obtain rfl : f = 4 := Option.some.inj ((show Tryz.prog.funcNamed "klaxon/klaxonlaw13.SetReads" = some 4 by kernel_rfl).symm.trans hf) |>.symm
   obtain rfl : fn = Tryz.f4 := (Option.some.inj (Tryz.func4.symm.trans hfn)).symm
   exact ⟨by kernel_rfl, fun j t ht => by
    rw [Tryz.params4] at ht
    have h3 : t = 45 := by
     rcases j with _ | j
     ·simpa using ht.symm
     ·simp at ht
    subst h3
    exact (show Tryz.prog.wantsStandIn 45 = false by kernel_rfl)⟩)
  (by kernel_rfl)
#print axioms setReads_card
end Go.Proofs.YtdknmcaemebgfaaGreatDoor
