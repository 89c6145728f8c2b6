/- The iterator of strings.SplitSeq hands the pieces of the text in their order. -/
import Derived.Test.YtcdbeepphdfipaaGreatDoorSeq
import Derived.Test.YtcdbeepphdfipaaGreatDoorRangeS
import Derived.Test.YtcdbeepphdfipaaGreatDoorLawK
import Derived.Sort.QuietIn
namespace Go.Proofs.YtcdbeepphdfipaaGreatDoor
open Go.RowKit
set_option linter.unusedVariables false
attribute [local go_sem] Oper.semAt_some

/-- The t-th piece. -/
def pieceT (c : UInt8) (L : List UInt8) (t : Nat) : List UInt8 := (splitB c L).getD t []
theorem piece_next {c : UInt8} {L R : List UInt8} {out : List (List UInt8)} {i : Nat} (h : splitB c L = out ++ splitB c R) (hi : Lib.indexByte R c = i) :
    i < R.length ∧ pieceT c L out.length = R.take i ∧ out.length < (splitB c L).length ∧ splitB c L = (out ++ [R.take i]) ++ splitB c (R.drop (i + 1)) := by
  obtain ⟨h1, h2, h3⟩ := cut_some hi
  have e : splitB c R = R.take i :: splitB c (R.drop (i + 1)) := by
    conv => lhs; rw [h2]
    exact splitB_app _ h3
  rw [e] at h
  refine ⟨h1, ?_, ?_, ?_⟩
  · rw [pieceT, h, List.getD_eq_getElem?_getD, List.getElem?_append_right (Nat.le_refl _), Nat.sub_self]
    rfl
  · rw [h, List.length_append, List.length_cons]; omega
  · rw [h, List.append_assoc]; rfl
theorem piece_last {c : UInt8} {L R : List UInt8} {out : List (List UInt8)} (h : splitB c L = out ++ splitB c R) (hi : Lib.indexByte R c = -1) :
    pieceT c L out.length = R ∧ (splitB c L).length = out.length + 1 := by
  rw [splitB_none (notin_of (Lib.indexByte_none hi))] at h
  refine ⟨?_, ?_⟩
  · rw [pieceT, h, List.getD_eq_getElem?_getD, List.getElem?_append_right (Nat.le_refl _), Nat.sub_self]
    rfl
  · rw [h, List.length_append]; rfl

/-- The length of the text in a box. -/
def slen (s : Nat) (w : World) : Nat := match w.cell? ⟨s, 0, none⟩ with | some (.string b) => b.size | _ => 0
theorem slen_eq {s : Nat} {w : World} {S : ByteArray} (h : Blk1 w s (.string S) 9) : slen s w = S.size := by
  obtain ⟨c, _⟩ := h.cells
  rw [slen, c]

set_option maxRecDepth 100000 in
set_option maxHeartbeats 4000000 in
theorem splitSeq_seq (L : List UInt8) (c : UInt8) (s n : Nat) (w0 : World) (hL : L.length ≤ 2000000) (hb0 : Blk1 w0 s (.string (bs L)) 9) (hb1 : Blk1 w0 (s + 1) (.string ⟨#[c]⟩) 9) (hb2 : Blk1 w0 (s + 1 + 1) (.int .i64 0) 3) (hn : 2 ≤ n) :
    SeqS Fence.wide n Tryz.prog 100 #[.pointer (some ⟨s + 1, 0, none⟩), .pointer (some ⟨s, 0, none⟩), .pointer (some ⟨s + 1 + 1, 0, none⟩)] (fun _ b => b = s ∨ b = s + 1 ∨ b = s + 1 + 1) (fun t => .string (bs (pieceT c L t)))
      (fun _ _ _ => True) (splitB c L).length s w0 := by
  intro l J W hW hJ hY h0
  have B0 := Lib.hid (hb0.new hW)
  have B1 := Lib.hid (hb1.new hW)
  have B2 := Lib.hid (hb2.new hW)
  obtain ⟨c1, f1⟩ := B1.out.cells
  have HJ := Lib.hid hJ
  have HY := Lib.hid hY
  have H0 := Lib.hid h0
  have HN := Lib.hid hn
  obtain ⟨C, hC⟩ : ∃ C, C = (⟨#[c]⟩ : ByteArray) := ⟨_, rfl⟩
  have hC1 : (C.size : Int) = 1 := by rw [hC]; rfl
  have HC := Lib.hid hC
  rw [← hC] at B1 c1
  clear hb0 hb1 hb2 hJ hY h0 hW hn hC
  refine callsIn_of_wp Tryz.func100 rfl trivial ?_ rfl
  simp only [Tryz.ntmps100, List.size_toArray, List.length_cons, List.length_nil, Nat.reduceAdd, Nat.reduceSub, Array.replicate_succ, Array.replicate_zero, List.push_toArray, List.append_toArray, List.nil_append, List.cons_append]
  gi_wp2
  gi_loopw [7] (fun t7 wr => ∃ (out : List (List UInt8)) (R : List UInt8), R.length ≤ 2000000 ∧ Hid (splitB c L = out ++ splitB c R) ∧ Hid (J out.length wr ∧ Blk1 wr s (.string (bs R)) 9 ∧ Blk1 wr (s + 1) (.string C) 9 ∧ Blk1 wr (s + 1 + 1) (.int .i64 0) 3)) (fun _ wr => slen s wr)
  case atStart => exact ⟨[], L, hL, rfl, H0.out, B0.out, B1.out, B2.out⟩
  case round =>
    obtain ⟨out, R, hR, HP, HD⟩ := hrel
    obtain ⟨wz, hwz⟩ : ∃ wz : World, wz = wr := ⟨_, rfl⟩
    rw [← hwz] at HD
    rw [← hwz]
    clear hwz
    obtain ⟨e0, f0⟩ := HD.out.2.1.cells
    obtain ⟨e1, _⟩ := HD.out.2.2.1.cells
    obtain ⟨e2, _⟩ := HD.out.2.2.2.cells
    obtain ⟨z, hz⟩ : ∃ z, z = Lib.indexByte R c := ⟨_, rfl⟩
    obtain ⟨S, hS⟩ : ∃ S, S = bs R := ⟨_, rfl⟩
    have KI : Hid (∀ w, Calls Tryz.prog 102 #[.string S, .string C] w fun e w' => e = .returned (.int .i64 z) ∧ w = w') := by
      refine Lib.hid (fun w => ?_)
      have h := Tryz.strings_Index_one (bs R) c w
      rw [bs_list, ← hz] at h
      rw [hS, HC.out]
      exact h.mono (fun e w' k => ⟨k.1, k.2.symm⟩)
    have hz1 := Lib.indexByte_ge R c
    rw [← hz] at hz1
    rw [← hS] at e0
    by_cases hz0 : 0 ≤ z
    · obtain ⟨i, rfl⟩ : ∃ i : Nat, z = i := ⟨z.toNat, by omega⟩
      obtain ⟨hi, hp, ho, hsp⟩ := piece_next HP.out hz.symm
      have s1 := run_sto R i (Nat.le_of_lt hi)
      have s2 : ∀ w, (Instr.slice 9 (.string (bs R)) (some (.int .i64 ((i : Int) + 1))) none none).run Tryz.prog w = .ok (.string (bs (R.drop (i + 1)))) w := fun w => by
        have h := run_slf R (i + 1) hi w
        rw [Int.natCast_add] at h
        exact h
      rw [← hS] at s1 s2
      have hiL : i ≤ 2000000 := by omega
      have HI := Lib.hid (And.intro hi (And.intro hp (And.intro ho hsp)))
      have HS := Lib.hid hS
      clear hS hz hz1 hi hp ho hsp
      gi_wp2
      refine ⟨trivial, fun _ => by have := HN.out; omega, (callsIn_wide.2 (KI.out wz)).mono ?_⟩
      rintro e w' ⟨rfl, rfl⟩
      obtain ⟨fn, tmps, assign, body, hy, hRn⟩ := HY.out out.length wz HI.out.2.2.1 HD.out.1 trivial
      rw [HI.out.2.1] at hy
      gi_wp2
      refine ⟨fun _ => by have := HN.out; omega, hRn.mono ?_⟩
      rintro e W3 ⟨rfl, hJ3, hsz3, hkeep⟩
      have hb0 := HD.out.2.1.same (hkeep s (.inl rfl))
      have hb1 := HD.out.2.2.1.same (hkeep (s + 1) (.inr (.inl rfl)))
      have hb2 := HD.out.2.2.2.same (hkeep (s + 1 + 1) (.inr (.inr rfl)))
      have HT := Lib.hid (And.intro hJ3 (And.intro hb0 (And.intro hb1 hb2)))
      obtain ⟨d0, g0⟩ := hb0.cells
      obtain ⟨d1, _⟩ := hb1.cells
      rw [← HS.out] at d0
      clear hJ3 hb0 hb1 hb2 hkeep hy hRn e0 e1 e2 f0
      gi_wp2
      have hst := HT.out.2.1.put (.string (bs (R.drop (i + 1))))
      have hch : Chg (· = s) W3 (W3.setCell ⟨s, 0, none⟩ (.string (bs (R.drop (i + 1))))) := Chg.setCell W3 ⟨s, 0, none⟩ _
      go_roundw
      case rel => exact ⟨out ++ [R.take i], R.drop (i + 1), by rw [List.length_drop]; omega, HI.out.2.2.2, by rw [List.length_append]; exact HJ.out _ _ _ HT.out.1 hch, hst, HT.out.2.2.1.chg hch (by omega), HT.out.2.2.2.chg hch (by omega)⟩
      case measure =>
        rw [slen_eq hst, slen_eq HD.out.2.1, bs_size, bs_size, List.length_drop]
        have := HI.out.1
        omega
    · have hz2 : z = -1 := by omega
      subst hz2
      obtain ⟨hp, hT⟩ := piece_last HP.out hz.symm
      have HI := Lib.hid (And.intro hp hT)
      have HS := Lib.hid hS
      clear hS hz hz1 hp hT
      gi_wp2
      refine ⟨trivial, fun _ => by have := HN.out; omega, (callsIn_wide.2 (KI.out wz)).mono ?_⟩
      rintro e w' ⟨rfl, rfl⟩
      obtain ⟨fn, tmps, assign, body, hy, hRn⟩ := HY.out out.length wz (by rw [HI.out.2]; omega) HD.out.1 trivial
      rw [HI.out.1, ← HS.out] at hy
      gi_wp2
      refine ⟨fun _ => by have := HN.out; omega, hRn.mono ?_⟩
      rintro e W3 ⟨rfl, hJ3, hsz3, hkeep⟩
      have HT := Lib.hid hJ3
      clear hJ3 hkeep hy hRn e0 e1 e2 f0
      gi_wp2
      refine bodyPost_end (results_none rfl _ _ _) rfl ?_
      exact ⟨⟨_, rfl⟩, by rw [HI.out.2]; exact HT.out⟩
end Go.Proofs.YtcdbeepphdfipaaGreatDoor
