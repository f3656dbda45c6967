/-
  The table of the printed functions. No condition.
-/
import Derived.Test.YtidpincekbgjmaaGreatDoorE0
import Derived.Test.YtidpincekbgjmaaGreatDoorE1
import Derived.Test.YtidpincekbgjmaaGreatDoorE2
import Derived.Test.YtidpincekbgjmaaGreatDoorE3
import Derived.Test.YtidpincekbgjmaaGreatDoorE4
import Derived.Test.YtidpincekbgjmaaGreatDoorE5
set_option linter.unusedVariables false
set_option linter.unusedSimpArgs false
open Go Go.Abs Go.Proofs
namespace Go.Sh
noncomputable section
set_option maxRecDepth 100000
set_option maxHeartbeats 0
noncomputable def tbl : List (Nat × Piece) := [(3, fun _ C => p3_0 πF C), (4, fun _ C => p4_0 πF C), (5, fun _ C => p5_0 πF C), (6, fun _ C => p6_0 πF C), (7, fun _ C => p7_0 πF C), (8, fun _ C => p8_0 πF C), (9, fun _ C => p9_0 πF C), (10, fun _ C => p10_0 πF C), (11, fun _ C => p11_0 πF C), (12, fun _ C => p12_0 πF C), (14, fun _ C => p14_0 πF C), (15, fun _ C => p15_0 πF C), (16, fun _ C => p16_0 πF C), (17, fun _ C => p17_0 πF C), (18, fun _ C => p18_0 πF C), (19, fun _ C => p19_0 πF C), (20, fun _ C => p20_0 πF C), (21, fun _ C => p21_0 πF C), (22, fun _ C => p22_0 πF C), (23, fun _ C => p23_0 πF C), (26, fun _ C => p26_0 πF C), (27, fun _ C => p27_0 πF C), (28, fun _ C => p28_0 πF C), (29, fun _ C => p29_0 πF C), (30, fun _ C => p30_0 πF C), (31, fun _ C => p31_0 πF C), (32, fun _ C => p32_0 πF C), (33, fun _ C => p33_0 πF C), (35, fun _ C => p35_0 πF C), (36, fun _ C => p36_0 πF C), (37, fun _ C => p37_0 πF C), (39, fun _ C => p39_0 πF C), (40, fun _ C => p40_0 πF C), (41, fun _ C => p41_0 πF C), (42, fun _ C => p42_0 πF C), (43, fun _ C => p43_0 πF C), (44, fun _ C => p44_0 πF C), (45, fun _ C => p45_0 πF C), (46, fun _ C => p46_0 πF C), (47, fun _ C => p47_0 πF C), (48, fun _ C => p48_0 πF C), (49, fun _ C => p49_0 πF C), (50, fun _ C => p50_0 πF C), (51, fun _ C => p51_0 πF C), (53, fun _ C => p53_0 πF C), (54, fun _ C => p54_0 πF C), (55, fun _ C => p55_0 πF C), (56, fun _ C => p56_0 πF C), (57, fun _ C => p57_0 πF C), (58, fun _ C => p58_0 πF C), (61, fun _ C => p61_0 πF C), (62, fun _ C => p62_0 πF C), (63, fun _ C => p63_0 πF C), (64, fun _ C => p64_0 πF C), (65, fun _ C => p65_0 πF C), (66, fun _ C => p66_0 πF C), (67, fun _ C => p67_0 πF C), (68, fun _ C => p68_0 πF C), (69, fun _ C => p69_0 πF C), (70, fun _ C => p70_0 πF C), (71, fun _ C => p71_0 πF C), (72, fun _ C => p72_0 πF C), (73, fun _ C => p73_0 πF C), (74, fun _ C => p74_0 πF C), (75, fun _ C => p75_0 πF C), (77, fun _ C => p77_0 πF C), (78, fun _ C => p78_0 πF C), (79, fun _ C => p79_0 πF C), (80, fun _ C => p80_0 πF C), (90, fun _ C => p90_0 πF C), (93, fun _ C => p93_0 πF C), (94, fun _ C => p94_0 πF C), (95, fun _ C => p95_0 πF C), (96, fun _ C => p96_0 πF C), (97, fun _ C => p97_0 πF C), (98, fun _ C => p98_0 πF C), (99, fun _ C => p99_0 πF C), (101, fun _ C => p101_0 πF C), (102, fun _ C => p102_0 πF C), (103, fun _ C => p103_0 πF C), (104, fun _ C => p104_0 πF C), (106, fun _ C => p106_0 πF C), (108, fun _ C => p108_0 πF C), (109, fun _ C => p109_0 πF C), (113, fun _ C => p113_0 πF C), (153, fun _ C => p153_0 πF C), (154, fun _ C => p154_0 πF C), (160, fun _ C => p160_0 πF C), (162, fun _ C => p162_0 πF C), (165, fun _ C => p165_0 πF C), (166, fun _ C => p166_0 πF C), (167, fun _ C => p167_0 πF C), (168, fun _ C => p168_0 πF C), (169, fun _ C => p169_0 πF C), (170, fun _ C => p170_0 πF C), (171, fun _ C => p171_0 πF C), (172, fun _ C => p172_0 πF C), (179, fun _ C => p179_0 πF C), (180, fun _ C => p180_0 πF C), (181, fun _ C => p181_0 πF C), (183, fun _ C => p183_0 πF C), (184, fun _ C => p184_0 πF C), (231, fun _ C => p231_0 πF C), (232, fun _ C => p232_0 πF C), (233, fun _ C => p233_0 πF C), (234, fun _ C => p234_0 πF C), (235, fun _ C => p235_0 πF C), (236, fun _ C => p236_0 πF C), (237, fun _ C => p237_0 πF C), (243, fun _ C => p243_0 πF C), (245, fun _ C => p245_0 πF C), (246, fun _ C => p246_0 πF C), (252, fun _ C => p252_0 πF C), (254, fun _ C => p254_0 πF C), (314, fun _ C => p314_0 πF C), (316, fun _ C => p316_0 πF C), (317, fun _ C => p317_0 πF C), (318, fun _ C => p318_0 πF C), (319, fun _ C => p319_0 πF C), (325, fun _ C => p325_0 πF C), (368, fun _ C => p368_0 πF C), (400, fun _ C => p400_0 πF C), (401, fun _ C => p401_0 πF C), (402, fun _ C => p402_0 πF C), (404, fun _ C => p404_0 πF C), (405, fun _ C => p405_0 πF C), (406, fun _ C => p406_0 πF C)]
theorem tbl_good : ∀ p ∈ tbl, GoodP PG p.1 p.2 :=
  good_cons (fun _ C => p3_0_eq πF C) (
  good_cons (fun _ C => p4_0_eq πF C) (
  good_cons (fun _ C => p5_0_eq πF C) (
  good_cons (fun _ C => p6_0_eq πF C) (
  good_cons (fun _ C => p7_0_eq πF C) (
  good_cons (fun _ C => p8_0_eq πF C) (
  good_cons (fun _ C => p9_0_eq πF C) (
  good_cons (fun _ C => p10_0_eq πF C) (
  good_cons (fun _ C => p11_0_eq πF C) (
  good_cons (fun _ C => p12_0_eq πF C) (
  good_cons (fun _ C => p14_0_eq πF C) (
  good_cons (fun _ C => p15_0_eq πF C) (
  good_cons (fun _ C => p16_0_eq πF C) (
  good_cons (fun _ C => p17_0_eq πF C) (
  good_cons (fun _ C => p18_0_eq πF C) (
  good_cons (fun _ C => p19_0_eq πF C) (
  good_cons (fun _ C => p20_0_eq πF C) (
  good_cons (fun _ C => p21_0_eq πF C) (
  good_cons (fun _ C => p22_0_eq πF C) (
  good_cons (fun _ C => p23_0_eq πF C) (
  good_cons (fun _ C => p26_0_eq πF C) (
  good_cons (fun _ C => p27_0_eq πF C) (
  good_cons (fun _ C => p28_0_eq πF C) (
  good_cons (fun _ C => p29_0_eq πF C) (
  good_cons (fun _ C => p30_0_eq πF C) (
  good_cons (fun _ C => p31_0_eq πF C) (
  good_cons (fun _ C => p32_0_eq πF C) (
  good_cons (fun _ C => p33_0_eq πF C) (
  good_cons (fun _ C => p35_0_eq πF C) (
  good_cons (fun _ C => p36_0_eq πF C) (
  good_cons (fun _ C => p37_0_eq πF C) (
  good_cons (fun _ C => p39_0_eq πF C) (
  good_cons (fun _ C => p40_0_eq πF C) (
  good_cons (fun _ C => p41_0_eq πF C) (
  good_cons (fun _ C => p42_0_eq πF C) (
  good_cons (fun _ C => p43_0_eq πF C) (
  good_cons (fun _ C => p44_0_eq πF C) (
  good_cons (fun _ C => p45_0_eq πF C) (
  good_cons (fun _ C => p46_0_eq πF C) (
  good_cons (fun _ C => p47_0_eq πF C) (
  good_cons (fun _ C => p48_0_eq πF C) (
  good_cons (fun _ C => p49_0_eq πF C) (
  good_cons (fun _ C => p50_0_eq πF C) (
  good_cons (fun _ C => p51_0_eq πF C) (
  good_cons (fun _ C => p53_0_eq πF C) (
  good_cons (fun _ C => p54_0_eq πF C) (
  good_cons (fun _ C => p55_0_eq πF C) (
  good_cons (fun _ C => p56_0_eq πF C) (
  good_cons (fun _ C => p57_0_eq πF C) (
  good_cons (fun _ C => p58_0_eq πF C) (
  good_cons (fun _ C => p61_0_eq πF C) (
  good_cons (fun _ C => p62_0_eq πF C) (
  good_cons (fun _ C => p63_0_eq πF C) (
  good_cons (fun _ C => p64_0_eq πF C) (
  good_cons (fun _ C => p65_0_eq πF C) (
  good_cons (fun _ C => p66_0_eq πF C) (
  good_cons (fun _ C => p67_0_eq πF C) (
  good_cons (fun _ C => p68_0_eq πF C) (
  good_cons (fun _ C => p69_0_eq πF C) (
  good_cons (fun _ C => p70_0_eq πF C) (
  good_cons (fun _ C => p71_0_eq πF C) (
  good_cons (fun _ C => p72_0_eq πF C) (
  good_cons (fun _ C => p73_0_eq πF C) (
  good_cons (fun _ C => p74_0_eq πF C) (
  good_cons (fun _ C => p75_0_eq πF C) (
  good_cons (fun _ C => p77_0_eq πF C) (
  good_cons (fun _ C => p78_0_eq πF C) (
  good_cons (fun _ C => p79_0_eq πF C) (
  good_cons (fun _ C => p80_0_eq πF C) (
  good_cons (fun _ C => p90_0_eq πF C) (
  good_cons (fun _ C => p93_0_eq πF C) (
  good_cons (fun _ C => p94_0_eq πF C) (
  good_cons (fun _ C => p95_0_eq πF C) (
  good_cons (fun _ C => p96_0_eq πF C) (
  good_cons (fun _ C => p97_0_eq πF C) (
  good_cons (fun _ C => p98_0_eq πF C) (
  good_cons (fun _ C => p99_0_eq πF C) (
  good_cons (fun _ C => p101_0_eq πF C) (
  good_cons (fun _ C => p102_0_eq πF C) (
  good_cons (fun _ C => p103_0_eq πF C) (
  good_cons (fun _ C => p104_0_eq πF C) (
  good_cons (fun _ C => p106_0_eq πF C) (
  good_cons (fun _ C => p108_0_eq πF C) (
  good_cons (fun _ C => p109_0_eq πF C) (
  good_cons (fun _ C => p113_0_eq πF C) (
  good_cons (fun _ C => p153_0_eq πF C) (
  good_cons (fun _ C => p154_0_eq πF C) (
  good_cons (fun _ C => p160_0_eq πF C) (
  good_cons (fun _ C => p162_0_eq πF C) (
  good_cons (fun _ C => p165_0_eq πF C) (
  good_cons (fun _ C => p166_0_eq πF C) (
  good_cons (fun _ C => p167_0_eq πF C) (
  good_cons (fun _ C => p168_0_eq πF C) (
  good_cons (fun _ C => p169_0_eq πF C) (
  good_cons (fun _ C => p170_0_eq πF C) (
  good_cons (fun _ C => p171_0_eq πF C) (
  good_cons (fun _ C => p172_0_eq πF C) (
  good_cons (fun _ C => p179_0_eq πF C) (
  good_cons (fun _ C => p180_0_eq πF C) (
  good_cons (fun _ C => p181_0_eq πF C) (
  good_cons (fun _ C => p183_0_eq πF C) (
  good_cons (fun _ C => p184_0_eq πF C) (
  good_cons (fun _ C => p231_0_eq πF C) (
  good_cons (fun _ C => p232_0_eq πF C) (
  good_cons (fun _ C => p233_0_eq πF C) (
  good_cons (fun _ C => p234_0_eq πF C) (
  good_cons (fun _ C => p235_0_eq πF C) (
  good_cons (fun _ C => p236_0_eq πF C) (
  good_cons (fun _ C => p237_0_eq πF C) (
  good_cons (fun _ C => p243_0_eq πF C) (
  good_cons (fun _ C => p245_0_eq πF C) (
  good_cons (fun _ C => p246_0_eq πF C) (
  good_cons (fun _ C => p252_0_eq πF C) (
  good_cons (fun _ C => p254_0_eq πF C) (
  good_cons (fun _ C => p314_0_eq πF C) (
  good_cons (fun _ C => p316_0_eq πF C) (
  good_cons (fun _ C => p317_0_eq πF C) (
  good_cons (fun _ C => p318_0_eq πF C) (
  good_cons (fun _ C => p319_0_eq πF C) (
  good_cons (fun _ C => p325_0_eq πF C) (
  good_cons (fun _ C => p368_0_eq πF C) (
  good_cons (fun _ C => p400_0_eq πF C) (
  good_cons (fun _ C => p401_0_eq πF C) (
  good_cons (fun _ C => p402_0_eq πF C) (
  good_cons (fun _ C => p404_0_eq πF C) (
  good_cons (fun _ C => p405_0_eq πF C) (
  good_cons (fun _ C => p406_0_eq πF C) (
  good_nil)))))))))))))))))))))))))))))))))))))))))))))))))))))))))))))))))))))))))))))))))))))))))))))))))))))))))))))))))))))))))))))))
end
end Go.Sh
