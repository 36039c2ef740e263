/- The program's small closed runs: crc's table, two names of files. Over the program's given form. -/
import Derived.Test.YtgmahpnjeclipaaGreatDoorCo1
import Derived.Test.YtgmahpnjeclipaaGreatDoorCo2
import Derived.Test.YtgmahpnjeclipaaGreatDoorCo3
import Derived.Test.YtgmahpnjeclipaaGreatDoorCo4
import Derived.Test.YtgmahpnjeclipaaGreatDoorAm25
import Derived.Test.YtgmahpnjeclipaaGreatDoorFresh
namespace Go.AM.Code
open Go.Proofs
set_option maxRecDepth 1000000
/-- The compiled functions. -/
def tabList : List (FuncId × AFunc) := [(7, a7), (10, a10), (11, a11), (12, a12), (13, a13), (19, a19), (29, a29), (30, a30), (31, a31), (33, a33), (35, a35), (37, a37), (38, a38), (39, a39), (40, a40), (41, a41), (42, a42), (43, a43), (44, a44), (49, a49), (52, a52), (53, a53), (54, a54), (55, a55), (56, a56), (57, a57), (58, a58), (59, a59), (60, a60), (61, a61), (62, a62), (63, a63), (69, a69), (75, a75), (76, a76), (77, a77), (78, a78), (79, a79), (83, a83), (88, a88), (89, a89), (90, a90), (91, a91), (92, a92), (93, a93), (94, a94), (97, a97), (98, a98), (99, a99), (101, a101), (112, a112), (113, a113), (114, a114), (115, a115), (116, a116), (120, a120), (121, a121), (123, a123), (124, a124), (125, a125), (126, a126), (127, a127), (136, a136), (137, a137), (141, a141), (142, a142), (143, a143), (144, a144), (146, a146), (147, a147), (148, a148), (150, a150), (151, a151), (152, a152), (153, a153), (154, a154), (155, a155), (156, a156), (157, a157), (163, a163), (165, a165), (166, a166), (168, a168), (169, a169), (170, a170), (171, a171), (177, a177), (179, a179), (180, a180), (181, a181), (182, a182), (183, a183), (184, a184), (185, a185), (187, a187), (188, a188), (189, a189), (190, a190), (191, a191), (192, a192), (201, a201), (202, a202), (205, a205), (206, a206), (207, a207), (208, a208), (209, a209), (210, a210), (211, a211), (213, a213), (214, a214), (215, a215), (216, a216), (217, a217), (220, a220), (221, a221), (230, a230), (231, a231), (233, a233), (237, a237), (258, a258), (269, a269), (270, a270), (271, a271), (274, a274), (301, a301)]
def tab : Tr AFunc := tableOf tabList

theorem entries_nil : ∀ x ∈ ([] : List (FuncId × AFunc)), Entry x.1 x.2 := fun _ h => by cases h
theorem entries_cons {f : FuncId} {a : AFunc} {l : List (FuncId × AFunc)} (h : Entry f a) (hl : ∀ x ∈ l, Entry x.1 x.2) : ∀ x ∈ (f, a) :: l, Entry x.1 x.2 := fun x hx => by
  rcases List.mem_cons.1 hx with rfl | hx
  · exact h
  · exact hl x hx
theorem tab_ok : TableOk Tryz.prog tab.get := tableOf_ok _ (entries_cons c7 (entries_cons c10 (entries_cons c11 (entries_cons c12 (entries_cons c13 (entries_cons c19 (entries_cons c29 (entries_cons c30 (entries_cons c31 (entries_cons c33 (entries_cons c35 (entries_cons c37 (entries_cons c38 (entries_cons c39 (entries_cons c40 (entries_cons c41 (entries_cons c42 (entries_cons c43 (entries_cons c44 (entries_cons c49 (entries_cons c52 (entries_cons c53 (entries_cons c54 (entries_cons c55 (entries_cons c56 (entries_cons c57 (entries_cons c58 (entries_cons c59 (entries_cons c60 (entries_cons c61 (entries_cons c62 (entries_cons c63 (entries_cons c69 (entries_cons c75 (entries_cons c76 (entries_cons c77 (entries_cons c78 (entries_cons c79 (entries_cons c83 (entries_cons c88 (entries_cons c89 (entries_cons c90 (entries_cons c91 (entries_cons c92 (entries_cons c93 (entries_cons c94 (entries_cons c97 (entries_cons c98 (entries_cons c99 (entries_cons c101 (entries_cons c112 (entries_cons c113 (entries_cons c114 (entries_cons c115 (entries_cons c116 (entries_cons c120 (entries_cons c121 (entries_cons c123 (entries_cons c124 (entries_cons c125 (entries_cons c126 (entries_cons c127 (entries_cons c136 (entries_cons c137 (entries_cons c141 (entries_cons c142 (entries_cons c143 (entries_cons c144 (entries_cons c146 (entries_cons c147 (entries_cons c148 (entries_cons c150 (entries_cons c151 (entries_cons c152 (entries_cons c153 (entries_cons c154 (entries_cons c155 (entries_cons c156 (entries_cons c157 (entries_cons c163 (entries_cons c165 (entries_cons c166 (entries_cons c168 (entries_cons c169 (entries_cons c170 (entries_cons c171 (entries_cons c177 (entries_cons c179 (entries_cons c180 (entries_cons c181 (entries_cons c182 (entries_cons c183 (entries_cons c184 (entries_cons c185 (entries_cons c187 (entries_cons c188 (entries_cons c189 (entries_cons c190 (entries_cons c191 (entries_cons c192 (entries_cons c201 (entries_cons c202 (entries_cons c205 (entries_cons c206 (entries_cons c207 (entries_cons c208 (entries_cons c209 (entries_cons c210 (entries_cons c211 (entries_cons c213 (entries_cons c214 (entries_cons c215 (entries_cons c216 (entries_cons c217 (entries_cons c220 (entries_cons c221 (entries_cons c230 (entries_cons c231 (entries_cons c233 (entries_cons c237 (entries_cons c258 (entries_cons c269 (entries_cons c270 (entries_cons c271 (entries_cons c274 (entries_cons c301 (entries_nil)))))))))))))))))))))))))))))))))))))))))))))))))))))))))))))))))))))))))))))))))))))))))))))))))))))))))))))))))))))))))))))))

/-- What is answered at once. -/
def X1 : FuncId → Option XFun
  | 149 => some xRoom2
  | 212 => some xSorted2
  | 138 => some xCompare
  | 288 => some xCount
  | 317 => some xIndexByte
  | 232 => some xCrc
  | 238 => some xTrimR
  | _ => none
theorem X1_ok : AtOnceOk Tryz.prog X1 := by
  intro f x hx
  unfold X1 at hx
  split at hx <;> cases hx
  · exact room_ok
  · exact sorted_ok
  · exact compare_ok
  · exact count_ok
  · exact indexByte_ok
  · exact xCrc_ok
  · exact trimR_ok
def fast1 : Callee := callK (aveq 5) X1 tab 1000 20
theorem fast1_ok : CalleeOk Tryz.prog fast1 := callK_ok orders (aveq_sound 5) X1_ok tab_ok 1000 20

/-- Has a call come to this value? -/
def came (v : AVal) (o : Out) : Bool := match o with | some (v', _) => aveq 5 v' v | none => false
theorem came_some {v : AVal} {o : Out} (h : came v o = true) : ∃ H, o = some (v, H) := by
  unfold came at h
  split at h
  · rename_i v' H
    exact ⟨H, by rw [aveq_sound 5 _ _ h]⟩
  · cases h
theorem closed_came {P : Program} {cl : Callee} (hcl : CalleeOk P cl) {f : FuncId} {args : List AVal} {v : AVal} (h : came v (cl f args AHeap.empty) = true) (ha : args.all AVal.shut = true) (hv : v.shut = true) : OnceOk P f (xClosed args v) := by
  obtain ⟨H, e⟩ := came_some h
  exact closed_ok hcl e ha hv


/-- crc's table. -/
def crcTab : AVal := .agg [.prim (.int .u32 (.ofNat 0)), .prim (.int .u32 (.ofNat 498536548)), .prim (.int .u32 (.ofNat 997073096)), .prim (.int .u32 (.ofNat 651767980)), .prim (.int .u32 (.ofNat 1994146192)), .prim (.int .u32 (.ofNat 1802195444)), .prim (.int .u32 (.ofNat 1303535960)), .prim (.int .u32 (.ofNat 1342533948)), .prim (.int .u32 (.ofNat 3988292384)), .prim (.int .u32 (.ofNat 4027552580)), .prim (.int .u32 (.ofNat 3604390888)), .prim (.int .u32 (.ofNat 3412177804)), .prim (.int .u32 (.ofNat 2607071920)), .prim (.int .u32 (.ofNat 2262029012)), .prim (.int .u32 (.ofNat 2685067896)), .prim (.int .u32 (.ofNat 3183342108))]
theorem begin_came : came crcTab (fast1 274 [] AHeap.empty) = true := by kernel_rfl
theorem begin_ok : OnceOk Tryz.prog 274 (xClosed [] crcTab) := closed_came fast1_ok begin_came rfl rfl
def catDb : List AVal := [.prim (.string (bs [99, 97, 116, 46, 100, 98]))]
def catLog : List AVal := [.prim (.string (bs [99, 97, 116, 46, 108, 111, 103]))]
theorem db_came : came (.prim (.bool true)) (fast1 180 catDb AHeap.empty) = true := by kernel_rfl
theorem log_came : came (.prim (.bool true)) (fast1 180 catLog AHeap.empty) = true := by kernel_rfl
theorem db_ok : OnceOk Tryz.prog 180 (xClosed catDb (.prim (.bool true))) := closed_came fast1_ok db_came rfl rfl
theorem log_ok : OnceOk Tryz.prog 180 (xClosed catLog (.prim (.bool true))) := closed_came fast1_ok log_came rfl rfl

/-- The one, or the other. -/
def xEither (x y : XFun) : XFun := fun args H =>
  match x args H with
  | some r => some r
  | none => y args H
theorem either_ok {P : Program} {f : FuncId} {x y : XFun} (hx : OnceOk P f x) (hy : OnceOk P f y) : OnceOk P f (xEither x y) := by
  intro args H v H' h
  unfold xEither at h
  split at h
  · rename_i r e
    rw [h] at e
    exact hx args H v H' e
  · exact hy args H v H' h
end Go.AM.Code
