/-
  The walk of FnCircText. Conditions: the library's variables read as their initialisers lay them.
-/
import Derived.Test.YtkhgkaiadfebmaaDoorTurn2
import Derived.Test.YtkhgkaiadfebmaaDoorPcW
import Derived.Test.YtkhgkaiadfebmaaDoorOpen3
set_option linter.unusedSimpArgs false
set_option linter.unusedVariables false
namespace Go.Proofs.YtkhgkaiadfebmaaDoor
open Go.RowKit
theorem pc_of_fmt {M N2 : Int} {L R : List Int} {q r : Nat} {ok : Bool} (hl : L.length = q * 4) (h : PcR (fmtC M L q) N2 R r ok) :
    (M = N2 ∧ L = R ∧ q = r ∧ true = ok ∧ validC M L q = true) ∨ (0 = N2 ∧ [] = R ∧ 0 = r ∧ false = ok ∧ validC M L q = false) := by
  obtain ⟨K, A, B, C, O, hF⟩ := pgF_ex
  cases hv : validC M L q with
  | true =>
    obtain ⟨e1, e2, e3, e4⟩ := h.hit hF hl (pc_yes hF hl hv rfl).ne rfl
    exact .inl ⟨e1.symm, e2.symm, e3.symm, e4.symm, rfl⟩
  | false =>
    have hf : fmtC M L q = ⟨#[]⟩ := by unfold fmtC; rw [hv]; rfl
    obtain ⟨e1, e2, e3, e4⟩ := miss_nil hF h hf
    exact .inr ⟨e1.symm, e2.symm, e3.symm, e4.symm, rfl⟩
theorem PcR.text {s : ByteArray} {N : Int} {L : List Int} {n : Nat} {ok : Bool} (h : PcR s N L n ok) : ok = true → fmtC N L n = s := by
  rcases h with ⟨_, _, h, _⟩ | ⟨_, _, _, _, h⟩
  · exact fun _ => h
  · intro h2; rw [h] at h2; cases h2
set_option maxRecDepth 20000 in
set_option maxHeartbeats 6400000 in
theorem walk_FnCircText (w : World) (hO : LibOk w) (A : Option Addr) (n c : Nat) (l : List Int) (rd : Rd w A (bys l)) (hl : l.length = n) (hn : n ≤ maxLen) (wl : ∀ x ∈ l, 0 ≤ x ∧ x < 256) :
    Calls Tryd.prog 6 #[.slice A n c] w fun e w' => e = .returned (.bool true) ∧ Ext w w' := by
  clear wl
  have HL := Lib.hid hl
  have HO := Lib.hid hO
  clear hl hO
  unfold maxLen at hn
  by_cases hbig : 1048576 < n
  · have hd : decide (1048576 < n) = true := by simpa using hbig
    go_enter Tryd.func6, Tryd.ntmps6
    go_wp2_with fail
    refine (big_any A n c _).mono ?_
    rintro e w1 ⟨rfl, rfl⟩
    go_wp2
    go_ret
    exact ⟨rfl, (by repeat (first | exact Ext.refl _ | assumption | refine Ext.alloc ?_ _ | refine Ext.drew ?_ | refine Ext.drewN ?_ _ | refine Ext.trans ?_ (by assumption)))⟩
  · have hd : decide (1048576 < n) = false := by simpa using hbig
    go_enter Tryd.func6, Tryd.ntmps6
    go_wp2_with fail
    refine (big_any A n c _).mono ?_
    rintro e w1 ⟨rfl, rfl⟩
    go_wp2_with fail
    refine (drawFmtCirc_ok A n c l _ rd HL.out (by omega)).mono ?_
    rintro e w1 ⟨M, G, q, cG, L, rfl, hq, hLl, fG, h1⟩
    have hfz := fmtC_size M L q
    have HFI := Lib.hid (fun W (h : Rd W G (ints L)) (hN : Names W) => impl_fmtCirc M G q cG L W h hLl (by omega) hN)
    have HFS := Lib.hid (fun W (h : Rd W G (ints L)) (hN : Names W) => spec_fmtCirc M G q cG L W h hLl (by omega) hN)
    have HV := Lib.hid (fun W (h : Rd W G (ints L)) => spec_validC M G q cG L W h hLl (by omega))
    obtain ⟨N2, R2, r2, ok, hR⟩ := pcR_ex (fmtC M L q)
    obtain ⟨K, KA, KB, KC, KO, v, o, hl, m, T, U, GG, S⟩ := pcS_ex hR (by omega)
    have HP := Lib.hid (fun W h => impl_pc K KA KB KC KO (fmtC M L q) N2 R2 r2 ok v o hl m T U GG S W (by omega) h)
    have HC := Lib.hid (pc_of_fmt hLl hR)
    have HLl := Lib.hid hLl
    clear hR S hLl
    have hf1 : (fmtC M L q).size ≤ 10000 := by omega
    generalize fmtC M L q = f at *
    clear hfz
    go_wp2_with fail
    refine (HFI.out _ (fG.ext ((Ext.refl w1).alloc _)).rd (HO.out.ext (h1.alloc _)).names).mono ?_
    rintro e w2 ⟨rfl, h2⟩
    have y1 := (Blk.new w1 30 #[.int .i64 M, .slice G q cG]).ext h2
    replace fG := fG.ext (Ext.trans ((Ext.refl w1).alloc _) h2)
    have h02 := (h1.alloc (.cells #[.int .i64 M, .slice G q cG] 30)).trans h2
    clear h1 h2
    obtain ⟨y1c, y1f, y1z⟩ := y1.all
    go_wp2_with fail
    refine (HP.out _ (HO.out.ext h02)).mono ?_
    rintro e w3 ⟨G2, cG2, rfl, fG2, h3⟩
    clear y1c y1f y1z
    replace y1 := Blk.to y1 h3 (by repeat (first | exact Ext.refl _ | assumption | refine Ext.alloc ?_ _ | refine Ext.drew ?_ | refine Ext.drewN ?_ _ | refine Ext.trans ?_ (by assumption)))
    obtain ⟨y1c, y1f, y1z⟩ := y1.all
    replace fG := fG.ext h3
    have h03 := h02.trans h3
    clear h02 h3
    go_wp2_with fail
    refine (drawParseCirc_ok A n c l _ (rd.ext (h03.alloc _)) HL.out (by omega) (HO.out.ext (h03.alloc _)).names).mono ?_
    rintro e w4 ⟨t, rfl, ht, h4⟩
    have y2 := (Blk.new w3 30 #[.int .i64 N2, .slice G2 r2 cG2]).ext h4
    have e34 : Ext w3 w4 := Ext.trans ((Ext.refl w3).alloc _) h4
    clear y1c y1f y1z
    replace y1 := y1.ext e34
    replace fG := fG.ext e34
    replace fG2 := fG2.ext e34
    have h04 := h03.trans e34
    clear h03 h4 e34 rd HL hbig hn
    obtain ⟨y1c, y1f, y1z⟩ := y1.all
    obtain ⟨y2c, y2f, y2z⟩ := y2.all
    obtain ⟨N3, R3, r3, right, hR⟩ := pcR_ex t
    obtain ⟨K', KA', KB', KC', KO', v', o', hl', m', T', U', GG', S⟩ := pcS_ex hR (by omega)
    have HPI := Lib.hid (fun W h => impl_pc K' KA' KB' KC' KO' t N3 R3 r3 right v' o' hl' m' T' U' GG' S W (by omega) h)
    have HPS := Lib.hid (fun W h => spec_pc K' KA' KB' KC' KO' t N3 R3 r3 right v' o' hl' m' T' U' GG' S W (by omega) h)
    have HT := Lib.hid hR.text
    have HR3 := Lib.hid hR.len.1
    have hr60 := hR.len.2
    clear hR S
    go_wp2_with fail
    refine (HPI.out _ (HO.out.ext h04)).mono ?_
    rintro e w5 ⟨G3, cG3, rfl, fG3, h5⟩
    clear y1c y1f y1z
    replace y1 := Blk.to y1 h5 (by repeat (first | exact Ext.refl _ | assumption | refine Ext.alloc ?_ _ | refine Ext.drew ?_ | refine Ext.drewN ?_ _ | refine Ext.trans ?_ (by assumption)))
    obtain ⟨y1c, y1f, y1z⟩ := y1.all
    clear y2c y2f y2z
    replace y2 := Blk.to y2 h5 (by repeat (first | exact Ext.refl _ | assumption | refine Ext.alloc ?_ _ | refine Ext.drew ?_ | refine Ext.drewN ?_ _ | refine Ext.trans ?_ (by assumption)))
    obtain ⟨y2c, y2f, y2z⟩ := y2.all
    replace fG := fG.ext h5
    replace fG2 := fG2.ext h5
    have h05 := h04.trans h5
    clear h04 h5
    go_wp2_with fail
    refine (HPS.out _ (HO.out.ext (h05.alloc _))).mono ?_
    rintro e w6 ⟨G4, cG4, rfl, _, h6⟩
    have y3 := (Blk.new w5 30 #[.int .i64 N3, .slice G3 r3 cG3]).ext h6
    have e56 : Ext w5 w6 := Ext.trans ((Ext.refl w5).alloc _) h6
    clear y1c y1f y1z y2c y2f y2z
    replace y1 := y1.ext e56
    replace y2 := y2.ext e56
    replace fG := fG.ext e56
    replace fG2 := fG2.ext e56
    replace fG3 := fG3.ext e56
    have h06 := h05.trans e56
    clear h05 h6 e56
    obtain ⟨y1c, y1f, y1z⟩ := y1.all
    obtain ⟨y2c, y2f, y2z⟩ := y2.all
    obtain ⟨y3c, y3f, y3z⟩ := y3.all
    have HFT := Lib.hid (fun W (h : Rd W G3 (ints R3)) (hN : Names W) => impl_fmtCirc N3 G3 r3 cG3 R3 W h HR3.out (by omega) hN)
    rcases HC.out with ⟨e1, e2, e3, e4, e5⟩ | ⟨e1, e2, e3, e4, e5⟩
    · subst e1 e2 e3 e4
      rw [e5] at HV
      clear e5
      go_wp2_with fail
      refine (HFS.out _ (fG.ext ((Ext.refl w6).alloc _)).rd (HO.out.ext (h06.alloc _)).names).mono ?_
      rintro e w7 ⟨rfl, h7⟩
      have e67 : Ext w6 w7 := Ext.trans ((Ext.refl w6).alloc _) h7
      clear y1c y1f y1z y2c y2f y2z y3c y3f y3z h7
      replace y1 := y1.ext e67
      replace y2 := y2.ext e67
      replace y3 := y3.ext e67
      replace fG := fG.ext e67
      replace fG2 := fG2.ext e67
      replace fG3 := fG3.ext e67
      have h07 := h06.trans e67
      clear h06 e67
      obtain ⟨y1c, y1f, y1z⟩ := y1.all
      obtain ⟨y2c, y2f, y2z⟩ := y2.all
      obtain ⟨y3c, y3f, y3z⟩ := y3.all
      go_wp2_with fail
      refine (HV.out _ fG.rd).mono ?_
      rintro e w8 ⟨rfl, h8⟩
      clear y1c y1f y1z
      replace y1 := Blk.to y1 h8 (by repeat (first | exact Ext.refl _ | assumption | refine Ext.alloc ?_ _ | refine Ext.drew ?_ | refine Ext.drewN ?_ _ | refine Ext.trans ?_ (by assumption)))
      obtain ⟨y1c, y1f, y1z⟩ := y1.all
      clear y2c y2f y2z
      replace y2 := Blk.to y2 h8 (by repeat (first | exact Ext.refl _ | assumption | refine Ext.alloc ?_ _ | refine Ext.drew ?_ | refine Ext.drewN ?_ _ | refine Ext.trans ?_ (by assumption)))
      obtain ⟨y2c, y2f, y2z⟩ := y2.all
      clear y3c y3f y3z
      replace y3 := Blk.to y3 h8 (by repeat (first | exact Ext.refl _ | assumption | refine Ext.alloc ?_ _ | refine Ext.drew ?_ | refine Ext.drewN ?_ _ | refine Ext.trans ?_ (by assumption)))
      obtain ⟨y3c, y3f, y3z⟩ := y3.all
      replace fG := fG.ext h8
      replace fG2 := fG2.ext h8
      replace fG3 := fG3.ext h8
      have h08 := h07.trans h8
      clear h07 h8
      have HE1 := Lib.hid (fun W (h1 : Rd W G (ints L)) (h2 : Rd W G2 (ints L)) => spec_equalC M M G G2 q q cG cG2 L L W h1 h2 HLl.out HLl.out (by omega) (by omega))
      have HE2 := Lib.hid (fun W (h1 : Rd W G (ints L)) (h2 : Rd W G2 (ints L)) => impl_equalC M M G G2 q q cG cG2 L L W h1 h2 HLl.out HLl.out (by omega) (by omega))
      simp only [and_self, decide_true] at HE1 HE2
      go_wp2_with fail
      refine (HE1.out _ fG.rd fG2.rd).mono ?_
      rintro e w9 ⟨rfl, h9⟩
      clear y1c y1f y1z
      replace y1 := Blk.to y1 h9 (by repeat (first | exact Ext.refl _ | assumption | refine Ext.alloc ?_ _ | refine Ext.drew ?_ | refine Ext.drewN ?_ _ | refine Ext.trans ?_ (by assumption)))
      obtain ⟨y1c, y1f, y1z⟩ := y1.all
      clear y2c y2f y2z
      replace y2 := Blk.to y2 h9 (by repeat (first | exact Ext.refl _ | assumption | refine Ext.alloc ?_ _ | refine Ext.drew ?_ | refine Ext.drewN ?_ _ | refine Ext.trans ?_ (by assumption)))
      obtain ⟨y2c, y2f, y2z⟩ := y2.all
      clear y3c y3f y3z
      replace y3 := Blk.to y3 h9 (by repeat (first | exact Ext.refl _ | assumption | refine Ext.alloc ?_ _ | refine Ext.drew ?_ | refine Ext.drewN ?_ _ | refine Ext.trans ?_ (by assumption)))
      obtain ⟨y3c, y3f, y3z⟩ := y3.all
      replace fG := fG.ext h9
      replace fG2 := fG2.ext h9
      replace fG3 := fG3.ext h9
      have h09 := h08.trans h9
      clear h08 h9
      go_wp2_with fail
      refine (HE2.out _ fG.rd fG2.rd).mono ?_
      rintro e w10 ⟨rfl, h10⟩
      clear y1c y1f y1z
      replace y1 := Blk.to y1 h10 (by repeat (first | exact Ext.refl _ | assumption | refine Ext.alloc ?_ _ | refine Ext.drew ?_ | refine Ext.drewN ?_ _ | refine Ext.trans ?_ (by assumption)))
      obtain ⟨y1c, y1f, y1z⟩ := y1.all
      clear y2c y2f y2z
      replace y2 := Blk.to y2 h10 (by repeat (first | exact Ext.refl _ | assumption | refine Ext.alloc ?_ _ | refine Ext.drew ?_ | refine Ext.drewN ?_ _ | refine Ext.trans ?_ (by assumption)))
      obtain ⟨y2c, y2f, y2z⟩ := y2.all
      clear y3c y3f y3z
      replace y3 := Blk.to y3 h10 (by repeat (first | exact Ext.refl _ | assumption | refine Ext.alloc ?_ _ | refine Ext.drew ?_ | refine Ext.drewN ?_ _ | refine Ext.trans ?_ (by assumption)))
      obtain ⟨y3c, y3f, y3z⟩ := y3.all
      replace fG3 := fG3.ext h10
      have h0x := h09.trans h10
      clear h09 h10
      cases right with
      | true =>
        rw [HT.out rfl] at HFT
        go_wp2_with fail
        refine (HFT.out _ fG3.rd (HO.out.ext h0x).names).mono ?_
        rintro e w11 ⟨rfl, h11⟩
        go_wp2
        go_ret
        exact ⟨rfl, h0x.trans h11⟩
      | false =>
        go_wp2
        go_ret
        exact ⟨rfl, h0x⟩
    · subst e1 e2 e3 e4
      rw [e5] at HV
      clear e5
      go_wp2_with fail
      refine (HFS.out _ (fG.ext ((Ext.refl w6).alloc _)).rd (HO.out.ext (h06.alloc _)).names).mono ?_
      rintro e w7 ⟨rfl, h7⟩
      have e67 : Ext w6 w7 := Ext.trans ((Ext.refl w6).alloc _) h7
      clear y1c y1f y1z y2c y2f y2z y3c y3f y3z h7
      replace y1 := y1.ext e67
      replace y2 := y2.ext e67
      replace y3 := y3.ext e67
      replace fG := fG.ext e67
      replace fG2 := fG2.ext e67
      replace fG3 := fG3.ext e67
      have h07 := h06.trans e67
      clear h06 e67
      obtain ⟨y1c, y1f, y1z⟩ := y1.all
      obtain ⟨y2c, y2f, y2z⟩ := y2.all
      obtain ⟨y3c, y3f, y3z⟩ := y3.all
      go_wp2_with fail
      refine (HV.out _ fG.rd).mono ?_
      rintro e w8 ⟨rfl, h8⟩
      clear y1c y1f y1z
      replace y1 := Blk.to y1 h8 (by repeat (first | exact Ext.refl _ | assumption | refine Ext.alloc ?_ _ | refine Ext.drew ?_ | refine Ext.drewN ?_ _ | refine Ext.trans ?_ (by assumption)))
      obtain ⟨y1c, y1f, y1z⟩ := y1.all
      clear y2c y2f y2z
      replace y2 := Blk.to y2 h8 (by repeat (first | exact Ext.refl _ | assumption | refine Ext.alloc ?_ _ | refine Ext.drew ?_ | refine Ext.drewN ?_ _ | refine Ext.trans ?_ (by assumption)))
      obtain ⟨y2c, y2f, y2z⟩ := y2.all
      clear y3c y3f y3z
      replace y3 := Blk.to y3 h8 (by repeat (first | exact Ext.refl _ | assumption | refine Ext.alloc ?_ _ | refine Ext.drew ?_ | refine Ext.drewN ?_ _ | refine Ext.trans ?_ (by assumption)))
      obtain ⟨y3c, y3f, y3z⟩ := y3.all
      replace fG := fG.ext h8
      replace fG2 := fG2.ext h8
      replace fG3 := fG3.ext h8
      have h08 := h07.trans h8
      clear h07 h8
      have h0x := h08
      cases right with
      | true =>
        rw [HT.out rfl] at HFT
        go_wp2_with fail
        refine (HFT.out _ fG3.rd (HO.out.ext h0x).names).mono ?_
        rintro e w11 ⟨rfl, h11⟩
        go_wp2
        go_ret
        exact ⟨rfl, h0x.trans h11⟩
      | false =>
        go_wp2
        go_ret
        exact ⟨rfl, h0x⟩
end Go.Proofs.YtkhgkaiadfebmaaDoor
