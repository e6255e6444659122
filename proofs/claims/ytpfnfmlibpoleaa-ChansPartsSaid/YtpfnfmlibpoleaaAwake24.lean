/- What the statements of layer 24 ask first. -/
import Derived.Test.YtpfnfmlibpoleaaChanS
import Derived.Test.YtpfnfmlibpoleaaHeadS
import Derived.Test.YtpfnfmlibpoleaaRefM
import Derived.Test.YtpfnfmlibpoleaaPrLaw24Awake
import Derived.Lib.SlBytesConst
set_option linter.unusedVariables false
set_option linter.unusedSimpArgs false
namespace Go.Proofs.Ytpfnfmlibpoleaa.Pr
open Go Go.Lift Go.Proofs

section
variable {K : KT} {L R : List Asr} {h : Heap}

/-- '[]byte' of a text that is written there. -/
theorem bytesConst {bs : Oct} {n : Nat} (hn : bs.length = n) (S : St L h) (hK : ∀ h', St (Ow 1 (some (top h), n, n) (u8s bs) :: L) h' → K (.slice (some (top h)) n n) h') :
    SemH P (Go.convert T.sl_uint8 T.sl_uint8 (.slice (some (top h)) n n)) K (al h (u8s bs).toArray T.uint8) := by
  intro w hw
  have ew : w = ({ w with heap := h } : World).alloc (.cells (u8s bs).toArray T.uint8) := by
    have : w.heap = h.push (.cells (u8s bs).toArray T.uint8) := hw
    obtain ⟨wh, w2, w3, w4⟩ := w
    simp only at this
    subst this
    rfl
  have r := Go.Lib.run_convert_bytes_const (P := P) ({ w with heap := h } : World) T.sl_uint8 T.uint8 (u8s bs).toArray n n u_sl u_u8
  rw [← ew] at r
  refine ⟨_, _, r, ?_, ⟨rfl, rfl, rfl⟩⟩
  have hsz : (u8s bs).toArray.size = (u8s bs).length := rfl
  rw [hsz]
  refine hK _ (S.owNew (sz := 1) (p := some (top h)) (l := n) (c := n) (vs := u8s bs) ⟨by rw [u8s_length]; omega, Nat.le_refl _, [], by simp, ?_⟩ (Fr.top (Nat.le_refl _)) (Keeps.push _ _ _))
  rw [List.append_nil]
  exact Mem.newF h (u8s bs) T.uint8 ((u8s bs).length + 1)

abbrev pubM (s1 s2 : Oct) (f1 : Bool) : PM := ⟨[0], [s1, s2], [f1, false], []⟩
abbrev pubC (w : Nat) (s1 s2 : Oct) (f1 : Bool) (hd : PH) (body : Oct) : CA := ⟨w, (60, 40, pubM s1 s2 f1), hd, body⟩
theorem smallPub (s1 s2 : Oct) (f1 : Bool) (h1 : s1.length ≤ 255) (h2 : s2.length ≤ 255) : ((pubM s1 s2 f1).N.length < 1000000 ∧ (pubM s1 s2 f1).S.length < 1000000 ∧ (pubM s1 s2 f1).F.length < 1000000) ∧ (∀ v ∈ (pubM s1 s2 f1).N, v < 18446744073709551616) ∧ (∀ s ∈ (pubM s1 s2 f1).S, s.length < 1073741824) ∧ wtD 8 (pubM s1 s2 f1).T ≤ 67108864 := by
  refine ⟨⟨by simp, by simp, by simp⟩, by simp, fun s hs => ?_, by simp [wtD]⟩
  simp only [List.mem_cons, List.not_mem_nil, or_false] at hs
  rcases hs with rfl | rfl <;> omega

theorem aw_0 : frameR 3 [] ca0 = (⟨false, mm0 0 0, (0, 0, []), []⟩, 505, ca0) := by kernel_rfl
theorem aw_1 : methW 60 40 (pubM [] [113] false) = some [0, 60, 0, 40, 0, 0, 0, 1, 113, 0] := by decide +kernel
theorem aw_2 : frameR 1 [0, 60, 0, 40, 0, 0, 0, 1, 113, 0] ca0 = (ak0, 0, pubC 1 [] [113] false (0, 0, []) []) := by kernel_rfl
theorem aw_3 : headW (1, 0, []) = [0, 60, 0, 0, 0, 0, 0, 0, 0, 0, 0, 1, 0, 0] := by decide +kernel
theorem aw_4 : frameR 2 [0, 60, 0, 0, 0, 0, 0, 0, 0, 0, 0, 1, 0, 0] (pubC 1 [] [113] false (0, 0, []) []) = (ak0, 0, pubC 2 [] [113] false (1, 0, []) []) := by kernel_rfl
theorem aw_5 : frameR 3 [120] (pubC 2 [] [113] false (1, 0, []) []) = (⟨true, (60, 40, pubM [] [113] false), (1, 0, []), [120]⟩, 0, ca0) := by kernel_rfl

/-- A result kept in a box of one's own. -/
theorem keepS {Q : Heap → Prop} {r : AK} {y : MV} {bv : SV} (S : St L h) (hQ : ∀ h', St (Bx (top h) (askc r y bv) :: L) h' → Q h') : (askc r y bv).length = 11 ∧ ∃ h9, stC (al h zeros.toArray T.api_Ask) (top h) 0 (askc r y bv) = some h9 ∧ Q h9 :=
  ⟨rfl, (S.al zeros T.api_Ask).putA (top h) (ws := askc r y bv) rfl (by simp [one]) hQ⟩

theorem awake24S (S : St L h) (hK : ∀ h', St L h' → K (.bool true) h') : CallsH P F.waybilllaw24_awake [] K h := by
  refine waybilllaw24_awake.ok ?_
  unfold waybilllaw24_awake.p0
  have eh : ∀ h, al h #[.bool false, .int .i64 0, .int .i64 0, .slice none 0 0, .slice none 0 0, .slice none 0 0, .slice none 0 0, .int .u64 0, .int .i64 0, .string (mkS ([] : List UInt8)), .slice none 0 0] T.api_Ask = al h zeros.toArray T.api_Ask := fun _ => rfl
  simp only [bd, eh]
  refine newS S fun h1 S1 => ⟨_, rfl, (fun e => by cases e), fun _ => ?_⟩
  generalize top h = a at *
  refine frameS (a := a) (c := ca0) (s := (none, 0, 0)) (bs := []) (show St (AsmA a ca0 :: Im 1 (none, 0, 0) (u8s []) :: L) h1 from (S1.imNil 1 0).p1) (by decide) (by decide) (by decide) ?_
  rw [aw_0]
  intro y0 B0 bv0 h2 S2
  refine ⟨_, _, rfl, keepS (show St (AsmA a ca0 :: L) h2 from S2.to) fun h3 S3 => ?_⟩
  have S4 : St (Im 1 (some (top h3), 1, 1) (nums [0]) :: _) (al h3 #[.int .u64 0] T.uint64) := S3.lit (nums [0]) T.uint64 1 rfl
  generalize al h3 #[.int .u64 0] T.uint64 = g1 at *
  have S4 : St (Im 1 (some (top g1), 2, 2) (strs [[], [113]]) :: _) (al g1 #[.string (mkS []), .string (mkS [113])] T.string) := S4.lit (strs [[], [113]]) T.string 2 rfl
  generalize al g1 #[.string (mkS []), .string (mkS [113])] T.string = g2 at *
  have S4 : St (Im 1 (some (top g2), 2, 2) (bools [false, false]) :: _) (al g2 #[.bool false, .bool false] T.bool) := S4.lit (bools [false, false]) T.bool 2 rfl
  generalize al g2 #[.bool false, .bool false] T.bool = g3 at *
  have sp := smallPub [] [113] false (by decide) (by decide)
  refine rmethS (t := (none, 0, 0)) (bs := []) (y := ⟨(some (top h3), 1, 1), (some (top g1), 2, 2), (some (top g2), 2, 2), (none, 0, 0)⟩) (x := pubM [] [113] false) (B := fun _ => False)
    (show St (Im 1 (none, 0, 0) (u8s []) :: Tb (fun _ => False) (none, 0, 0) [] :: _) g3 from (tbNil 0 S4).imNil 1 0) sp.1 sp.2.1 sp.2.2.1 sp.2.2.2 (by decide) fun p l c h4 S5 => ⟨_, _, _, _, rfl, ?_⟩
  rw [aw_1] at S5
  simp only [Option.getD_some, List.nil_append] at S5
  have S6 : St (AsmA a ca0 :: Im 1 (p, l, c) (u8s [0, 60, 0, 40, 0, 0, 0, 1, 113, 0]) :: L) h4 := S5.to
  clear S5 S4 S3 S2 S1
  refine frameS (a := a) (c := ca0) (s := (p, l, c)) (bs := [0, 60, 0, 40, 0, 0, 0, 1, 113, 0]) S6 (by decide) (by decide) (by decide) ?_
  rw [aw_2]
  intro y1 B1 bv1 h5 S7
  refine ⟨_, _, rfl, keepS (show St (AsmA a (pubC 1 [] [113] false (0, 0, []) []) :: L) h5 from S7.to) fun h6 S8 => ?_⟩
  generalize top h5 = x at *
  refine waitsS (a := a) (c := pubC 1 [] [113] false (0, 0, []) []) S8 ⟨_, rfl, ?_⟩
  refine rheadS (t := (none, 0, 0)) (bs := []) (x := (1, 0, [])) (show St (Im 1 (none, 0, 0) (u8s []) :: _) h6 from S8.imNil 1 0) (by decide) (by decide) fun p2 l2 c2 h7 S9 => ⟨_, _, _, rfl, ?_⟩
  rw [aw_3, List.nil_append] at S9
  refine frameS (a := a) (c := pubC 1 [] [113] false (0, 0, []) []) (s := (p2, l2, c2)) (bs := [0, 60, 0, 0, 0, 0, 0, 0, 0, 0, 0, 1, 0, 0]) S9.im (by decide) (by decide) (by decide) ?_
  rw [aw_4]
  intro y2 B2 bv2 h8 S10
  refine ⟨_, _, rfl, keepS (show St (AsmA a (pubC 2 [] [113] false (1, 0, []) []) :: Bx x (askc ak0 y1 bv1) :: L) h8 from S10.to) fun h9 S11 => ?_⟩
  generalize top h8 = y at *
  refine bytesConst (bs := [120]) (n := 1) rfl S11 fun h10 S12 => ⟨_, _, _, rfl, ?_⟩
  refine frameS (a := a) (c := pubC 2 [] [113] false (1, 0, []) []) (s := (some (top h9), 1, 1)) (bs := [120]) S12.im (by decide) (by decide) (by decide) ?_
  rw [aw_5]
  intro y3 B3 bv3 h11 S13
  refine ⟨_, _, rfl, keepS (show St (AsmA a ca0 :: Im 1 bv3 (u8s [120]) :: Bx x (askc ak0 y1 bv1) :: Bx y (askc ak0 y2 bv2) :: L) h11 from S13.to) fun h12 S14 => ?_⟩
  generalize top h11 = z at *
  refine ifT rfl ?_
  simp only [rdB (S14.rc x 0 rfl), rdB (S14.rc y 0 rfl), rdB (S14.rc z 0 rfl), rdS (S14.rc z 10 rfl)]
  repeat (with_reducible refine ⟨fun _ => ?_, fun e => absurd e (by decide)⟩)
  refine str_ok u_sl u_u8 u_str (isl8 S14 (s := bv3) (bs := [120])).1 ⟨_, rfl, ifT rfl ?_⟩
  refine waitsS (a := a) (c := ca0) S14 ⟨_, rfl, ?_⟩
  exact hK h12 S14.to
end
end Go.Proofs.Ytpfnfmlibpoleaa.Pr
